/-
  Functions of the program as their counterparts say them (printed by a program).
  Conditions: none.
-/
import Derived.Test.YtonijgmopcmldaaGreatHa
set_option linter.all false
namespace Go.Proofs.YtonijgmopcmldaaGreat

-- contracts: FnSt1
abbrev mkPair : TPair → Value := fun (y : TPair) => .agg ⟨[.string ⟨⟨y.Key⟩⟩, .int .i64 (y.Val.Kind), .int .i64 (y.Val.N), .string ⟨⟨y.Val.S⟩⟩]⟩

def mergeF_L1 {σ : Type} (x1 : List TPair) (x3 : List TPair) (g8 : σ → TPair → Option σ) (g10 : σ → TPair → Option σ) (g12 : σ → TPair → TPair → Option σ) (g6 : TPair → TPair → Option Int) : Nat → σ → Int → Int → Option σ
  | 0, _, _, _ => none
  | n15 + 1, s, x13, x14 => (cond ((decide (x13 < (((x1).length : Nat) : Int))) || (decide (x14 < (((x3).length : Nat) : Int)))) (jn (fun (x23 : Int) => (cond (decide (x23 < (0 : Int))) (req (0 ≤ x13 ∧ x13 < ((x1).length : Int)) (bnd (g8 s ((atI x1 x13))) fun x34 => (mergeF_L1 x1 x3 g8 g10 g12 g6 n15 x34 ((IntKind.i64.wrap (x13 + (1 : Int)))) x14))) (cond (decide ((0 : Int) < x23)) (req (0 ≤ x14 ∧ x14 < ((x3).length : Int)) (bnd (g10 s ((atI x3 x14))) fun x37 => (mergeF_L1 x1 x3 g8 g10 g12 g6 n15 x37 x13 ((IntKind.i64.wrap (x14 + (1 : Int))))))) (req (0 ≤ x13 ∧ x13 < ((x1).length : Int)) (req (0 ≤ x14 ∧ x14 < ((x3).length : Int)) (bnd (g12 s ((atI x1 x13)) ((atI x3 x14))) fun x42 => (mergeF_L1 x1 x3 g8 g10 g12 g6 n15 x42 ((IntKind.i64.wrap (x13 + (1 : Int)))) ((IntKind.i64.wrap (x14 + (1 : Int))))))))))) (fun J24 => (cond (x13 == (((x1).length : Nat) : Int)) (J24 ((1 : Int))) (cond (x14 == (((x3).length : Nat) : Int)) (J24 ((-1 : Int))) (req (0 ≤ x13 ∧ x13 < ((x1).length : Int)) (req (0 ≤ x14 ∧ x14 < ((x3).length : Int)) (bnd (g6 ((atI x1 x13)) ((atI x3 x14))) fun x47 => (J24 x47)))))))) (some s))

def mergeF {σ : Type} (x1 : List TPair) (x3 : List TPair) (g6 : TPair → TPair → Option Int) (g8 : σ → TPair → Option σ) (g10 : σ → TPair → Option σ) (g12 : σ → TPair → TPair → Option σ)  (s : σ) : Option σ :=
  (mergeF_L1 x1 x3 g8 g10 g12 g6 (1000000 : Nat) s ((0 : Int)) ((0 : Int)))

set_option maxRecDepth 100000 in
theorem X_merge {σ : Type} {rel : View → σ → RowD → RowD → RowD → Prop} {V : View} (x1 : List TPair) (x3 : List TPair) (g6 : TPair → TPair → Option Int) {f6 : Nat} {ca6 : List Value} (g8 : σ → TPair → Option σ) {f8 : Nat} {ca8 : List Value} (g10 : σ → TPair → Option σ) {f10 : Nat} {ca10 : List Value} (g12 : σ → TPair → TPair → Option σ) {f12 : Nat} {ca12 : List Value} {a2 : Option Addr} {k2 : Nat} {a4 : Option Addr} {k4 : Nat} (h2 : SlAt cTPair V a2 k2 x1) (h4 : SlAt cTPair V a4 k4 x3) (hg6 : FnSpec2 Tryz.prog f6 ca6 V mkPair mkPair (fun (r : Int) => .int .i64 (r)) g6) (hg8 : FnSt1 Tryz.prog f8 ca8 V mkPair rel g8) (hg10 : FnSt1 Tryz.prog f10 ca10 V mkPair rel g10) (hg12 : FnSt2 Tryz.prog f12 ca12 V mkPair mkPair rel g12) {s r : σ} {r0 r1 r2 : RowD} (hrel : rel V s r0 r1 r2) (hF : mergeF x1 x3 g6 g8 g10 g12 s = some r) :
    SpecR Tryz.prog 67 [.slice a2 ((x1).length) (k2), .slice a4 ((x3).length) (k4), .func (.func f6) #[] ⟨ca6⟩, .func (.func f8) #[] ⟨ca8⟩, .func (.func f10) #[] ⟨ca10⟩, .func (.func f12) #[] ⟨ca12⟩] [r0, r1, r2] V (fun V' v rs' => v = .tuple ⟨[]⟩ ∧ ∃ q0 q1 q2, rs' = [q0, q1, q2] ∧ rel V' r q0 q1 q2) := by
  unfold mergeF at hF
  refine SpecR.enter (T := tyT) Tryz.func67 rfl (by kernel_rfl) rfl rfl rfl (M := [.row r0.x r0.cs r0.e r0.sz, .row r1.x r1.cs r1.e r1.sz, .row r2.x r2.cs r2.e r2.sz]) rfl ?_
  refine Exec.run tyOk 400 rfl ?_
  refine Exec.loop (fun n15 L' V' M' => ∃ (s : σ) (r0 r1 r2 : RowD) (x13 : Int) (x14 : Int), L' = [(0, .v (.slice a2 ((x1).length) (k2))), (1, .v (.slice a4 ((x3).length) (k4))), (2, .v (.func (.func f6) #[] ⟨ca6⟩)), (3, .v (.func (.func f8) #[] ⟨ca8⟩)), (4, .v (.func (.func f10) #[] ⟨ca10⟩)), (5, .v (.func (.func f12) #[] ⟨ca12⟩)), (12, .v (.int .i64 (x13))), (13, .v (.int .i64 (x14)))] ∧ M' = [.row r0.x r0.cs r0.e r0.sz, .row r1.x r1.cs r1.e r1.sz, .row r2.x r2.cs r2.e r2.sz] ∧ SlAt cTPair V' a2 k2 x1 ∧ SlAt cTPair V' a4 k4 x3 ∧ FnSpec2 Tryz.prog f6 ca6 V' mkPair mkPair (fun (r : Int) => .int .i64 (r)) g6 ∧ FnSt1 Tryz.prog f8 ca8 V' mkPair rel g8 ∧ FnSt1 Tryz.prog f10 ca10 V' mkPair rel g10 ∧ FnSt2 Tryz.prog f12 ca12 V' mkPair mkPair rel g12 ∧ rel V' s r0 r1 r2 ∧ mergeF_L1 x1 x3 g8 g10 g12 g6 n15 s x13 x14 = some r) ⟨(1000000 : Nat), [(0, .v (.slice a2 ((x1).length) (k2))), (1, .v (.slice a4 ((x3).length) (k4))), (2, .v (.func (.func f6) #[] ⟨ca6⟩)), (3, .v (.func (.func f8) #[] ⟨ca8⟩)), (4, .v (.func (.func f10) #[] ⟨ca10⟩)), (5, .v (.func (.func f12) #[] ⟨ca12⟩)), (12, .v (.int .i64 ((0 : Int)))), (13, .v (.int .i64 ((0 : Int))))], ⟨rfl, rfl, rfl, rfl, rfl, rfl, rfl, rfl, trivial⟩, s, r0, r1, r2, (0 : Int), (0 : Int), rfl, rfl, h2, h4, hg6, hg8, hg10, hg12, hrel, hF⟩ ?_
  clear hrel
  rintro n15 L' V16 M' ⟨s, r0, r1, r2, x13, x14, rfl, rfl, h17, h18, h19, h20, h21, h22, hrel, hF⟩
  rcases n15 with _ | n15
  · exact absurd hF (by simp [mergeF_L1])
  rw [mergeF_L1] at hF
  refine Exec.run tyOk 400 rfl ?_
  rcases cond_some hF with ⟨hb, hF⟩ | ⟨hb, hF⟩
  · skip
    refine Exec.ifT rfl hb ?_
    refine Exec.run tyOk 400 rfl ?_
    obtain ⟨J24, hJ24, hF⟩ := jn_some hF
    refine Exec.seam (fun L' V' M' => ∃ (x23 : Int), L' = [(0, .v (.slice a2 ((x1).length) (k2))), (1, .v (.slice a4 ((x3).length) (k4))), (2, .v (.func (.func f6) #[] ⟨ca6⟩)), (3, .v (.func (.func f8) #[] ⟨ca8⟩)), (4, .v (.func (.func f10) #[] ⟨ca10⟩)), (5, .v (.func (.func f12) #[] ⟨ca12⟩)), (12, .v (.int .i64 (x13))), (13, .v (.int .i64 (x14))), (14, .v (.int .i64 (x23)))] ∧ M' = [.row r0.x r0.cs r0.e r0.sz, .row r1.x r1.cs r1.e r1.sz, .row r2.x r2.cs r2.e r2.sz] ∧ SlAt cTPair V' a2 k2 x1 ∧ SlAt cTPair V' a4 k4 x3 ∧ FnSpec2 Tryz.prog f6 ca6 V' mkPair mkPair (fun (r : Int) => .int .i64 (r)) g6 ∧ FnSt1 Tryz.prog f8 ca8 V' mkPair rel g8 ∧ FnSt1 Tryz.prog f10 ca10 V' mkPair rel g10 ∧ FnSt2 Tryz.prog f12 ca12 V' mkPair mkPair rel g12 ∧ rel V' s r0 r1 r2 ∧ J24 x23 = some r) rfl ?_ ?_
    · rintro L' V25 M' ⟨x23, rfl, rfl, h26, h27, h28, h29, h30, h31, hrel, hF⟩
      subst hJ24
      refine Exec.run tyOk 400 rfl ?_
      rcases cond_some hF with ⟨hb, hF⟩ | ⟨hb, hF⟩
      · skip
        refine Exec.ifT rfl hb ?_
        refine Exec.run tyOk 400 rfl ?_
        obtain ⟨q32, hF⟩ := req_some hF
        obtain ⟨c33, hr33, hd33⟩ := SlAt.get h26 q32
        obtain rfl := hr33
        refine Exec.ia tyOk rfl rfl ⟨q32.1, q32.2, hd33.some⟩ ?_
        refine Exec.run tyOk 400 rfl ?_
        refine Exec.ld tyOk (x := .agg ⟨[.string ⟨⟨(atI x1 x13).Key⟩⟩, .int .i64 ((atI x1 x13).Val.Kind), .int .i64 ((atI x1 x13).Val.N), .string ⟨⟨(atI x1 x13).Val.S⟩⟩]⟩) rfl rfl hd33 rfl rfl ?_
        refine Exec.run tyOk 400 rfl ?_
        obtain ⟨x34, hx34, hF⟩ := bnd_some hF
        refine Exec.callR [0, 1, 2] (rs := [r0, r1, r2]) rfl rfl rfl rfl rfl rfl (h29 _ (VLe.refl _) s r0 r1 r2 _ _ hrel hx34) ?_
        rintro V50 _ _ hv50 ⟨rfl, q0, q1, q2, rfl, hrel2⟩
        refine ⟨_, rfl, ?_⟩
        refine Exec.run tyOk 400 rfl ?_
        exact Exec.round [(0, .v (.slice a2 ((x1).length) (k2))), (1, .v (.slice a4 ((x3).length) (k4))), (2, .v (.func (.func f6) #[] ⟨ca6⟩)), (3, .v (.func (.func f8) #[] ⟨ca8⟩)), (4, .v (.func (.func f10) #[] ⟨ca10⟩)), (5, .v (.func (.func f12) #[] ⟨ca12⟩)), (12, .v (.int .i64 ((IntKind.i64.wrap (x13 + (1 : Int)))))), (13, .v (.int .i64 (x14)))] ⟨rfl, rfl, rfl, rfl, rfl, rfl, rfl, rfl, trivial⟩ ⟨n15, Nat.lt_succ_self _, x34, q0, q1, q2, (IntKind.i64.wrap (x13 + (1 : Int))), x14, rfl, rfl, SlAt.mono h26 hv50, SlAt.mono h27 hv50, h28.mono hv50, h29.mono hv50, h30.mono hv50, h31.mono hv50, hrel2, hF⟩
      · skip
        refine Exec.ifF rfl hb ?_
        refine Exec.run tyOk 400 rfl ?_
        rcases cond_some hF with ⟨hb, hF⟩ | ⟨hb, hF⟩
        · skip
          refine Exec.ifT rfl hb ?_
          refine Exec.run tyOk 400 rfl ?_
          obtain ⟨q35, hF⟩ := req_some hF
          obtain ⟨c36, hr36, hd36⟩ := SlAt.get h27 q35
          obtain rfl := hr36
          refine Exec.ia tyOk rfl rfl ⟨q35.1, q35.2, hd36.some⟩ ?_
          refine Exec.run tyOk 400 rfl ?_
          refine Exec.ld tyOk (x := .agg ⟨[.string ⟨⟨(atI x3 x14).Key⟩⟩, .int .i64 ((atI x3 x14).Val.Kind), .int .i64 ((atI x3 x14).Val.N), .string ⟨⟨(atI x3 x14).Val.S⟩⟩]⟩) rfl rfl hd36 rfl rfl ?_
          refine Exec.run tyOk 400 rfl ?_
          obtain ⟨x37, hx37, hF⟩ := bnd_some hF
          refine Exec.callR [0, 1, 2] (rs := [r0, r1, r2]) rfl rfl rfl rfl rfl rfl (h30 _ (VLe.refl _) s r0 r1 r2 _ _ hrel hx37) ?_
          rintro V50 _ _ hv50 ⟨rfl, q0, q1, q2, rfl, hrel2⟩
          refine ⟨_, rfl, ?_⟩
          refine Exec.run tyOk 400 rfl ?_
          exact Exec.round [(0, .v (.slice a2 ((x1).length) (k2))), (1, .v (.slice a4 ((x3).length) (k4))), (2, .v (.func (.func f6) #[] ⟨ca6⟩)), (3, .v (.func (.func f8) #[] ⟨ca8⟩)), (4, .v (.func (.func f10) #[] ⟨ca10⟩)), (5, .v (.func (.func f12) #[] ⟨ca12⟩)), (12, .v (.int .i64 (x13))), (13, .v (.int .i64 ((IntKind.i64.wrap (x14 + (1 : Int))))))] ⟨rfl, rfl, rfl, rfl, rfl, rfl, rfl, rfl, trivial⟩ ⟨n15, Nat.lt_succ_self _, x37, q0, q1, q2, x13, (IntKind.i64.wrap (x14 + (1 : Int))), rfl, rfl, SlAt.mono h26 hv50, SlAt.mono h27 hv50, h28.mono hv50, h29.mono hv50, h30.mono hv50, h31.mono hv50, hrel2, hF⟩
        · skip
          refine Exec.ifF rfl hb ?_
          refine Exec.run tyOk 400 rfl ?_
          refine Exec.drawsE tyOk [] [0, 1, 2] [(0, true), (1, true), (2, true), (3, true), (4, true), (5, true), (6, true), (7, true), (8, true), (9, false)] (by kernel_rfl) ?_
          refine Exec.run tyOk 400 rfl ?_
          obtain ⟨q38, hF⟩ := req_some hF
          obtain ⟨c39, hr39, hd39⟩ := SlAt.get h26 q38
          obtain rfl := hr39
          refine Exec.fia tyOk rfl rfl rfl ⟨q38.1, q38.2, hd39.some⟩ ?_
          refine Exec.run tyOk 400 rfl ?_
          refine Exec.fld tyOk (x := .agg ⟨[.string ⟨⟨(atI x1 x13).Key⟩⟩, .int .i64 ((atI x1 x13).Val.Kind), .int .i64 ((atI x1 x13).Val.N), .string ⟨⟨(atI x1 x13).Val.S⟩⟩]⟩) rfl rfl rfl hd39 rfl rfl ?_
          refine Exec.run tyOk 400 rfl ?_
          obtain ⟨q40, hF⟩ := req_some hF
          obtain ⟨c41, hr41, hd41⟩ := SlAt.get h27 q40
          obtain rfl := hr41
          refine Exec.fia tyOk rfl rfl rfl ⟨q40.1, q40.2, hd41.some⟩ ?_
          refine Exec.run tyOk 400 rfl ?_
          refine Exec.fld tyOk (x := .agg ⟨[.string ⟨⟨(atI x3 x14).Key⟩⟩, .int .i64 ((atI x3 x14).Val.Kind), .int .i64 ((atI x3 x14).Val.N), .string ⟨⟨(atI x3 x14).Val.S⟩⟩]⟩) rfl rfl rfl hd41 rfl rfl ?_
          refine Exec.run tyOk 400 rfl ?_
          obtain ⟨x42, hx42, hF⟩ := bnd_some hF
          refine Exec.callR [0, 1, 2] (rs := [r0, r1, r2]) rfl rfl rfl rfl rfl rfl (h31 _ (VLe.refl _) s r0 r1 r2 _ _ _ hrel hx42) ?_
          rintro V50 _ _ hv50 ⟨rfl, q0, q1, q2, rfl, hrel2⟩
          refine ⟨_, rfl, ?_⟩
          refine Exec.run tyOk 400 rfl ?_
          exact Exec.round [(0, .v (.slice a2 ((x1).length) (k2))), (1, .v (.slice a4 ((x3).length) (k4))), (2, .v (.func (.func f6) #[] ⟨ca6⟩)), (3, .v (.func (.func f8) #[] ⟨ca8⟩)), (4, .v (.func (.func f10) #[] ⟨ca10⟩)), (5, .v (.func (.func f12) #[] ⟨ca12⟩)), (12, .v (.int .i64 ((IntKind.i64.wrap (x13 + (1 : Int)))))), (13, .v (.int .i64 ((IntKind.i64.wrap (x14 + (1 : Int))))))] ⟨rfl, rfl, rfl, rfl, rfl, rfl, rfl, rfl, trivial⟩ ⟨n15, Nat.lt_succ_self _, x42, q0, q1, q2, (IntKind.i64.wrap (x13 + (1 : Int))), (IntKind.i64.wrap (x14 + (1 : Int))), rfl, rfl, SlAt.mono h26 hv50, SlAt.mono h27 hv50, h28.mono hv50, h29.mono hv50, h30.mono hv50, h31.mono hv50, hrel2, hF⟩
    · skip
      refine Exec.run tyOk 400 rfl ?_
      rcases cond_some hF with ⟨hb, hF⟩ | ⟨hb, hF⟩
      · skip
        refine Exec.ifT rfl hb ?_
        refine Exec.run tyOk 400 rfl ?_
        exact Exec.round [(0, .v (.slice a2 ((x1).length) (k2))), (1, .v (.slice a4 ((x3).length) (k4))), (2, .v (.func (.func f6) #[] ⟨ca6⟩)), (3, .v (.func (.func f8) #[] ⟨ca8⟩)), (4, .v (.func (.func f10) #[] ⟨ca10⟩)), (5, .v (.func (.func f12) #[] ⟨ca12⟩)), (12, .v (.int .i64 (x13))), (13, .v (.int .i64 (x14))), (14, .v (.int .i64 ((1 : Int))))] ⟨rfl, rfl, rfl, rfl, rfl, rfl, rfl, rfl, rfl, trivial⟩ ⟨(1 : Int), rfl, rfl, h17, h18, h19, h20, h21, h22, hrel, hF⟩
      · skip
        refine Exec.ifF rfl hb ?_
        refine Exec.run tyOk 400 rfl ?_
        rcases cond_some hF with ⟨hb, hF⟩ | ⟨hb, hF⟩
        · skip
          refine Exec.ifT rfl hb ?_
          refine Exec.run tyOk 400 rfl ?_
          exact Exec.round [(0, .v (.slice a2 ((x1).length) (k2))), (1, .v (.slice a4 ((x3).length) (k4))), (2, .v (.func (.func f6) #[] ⟨ca6⟩)), (3, .v (.func (.func f8) #[] ⟨ca8⟩)), (4, .v (.func (.func f10) #[] ⟨ca10⟩)), (5, .v (.func (.func f12) #[] ⟨ca12⟩)), (12, .v (.int .i64 (x13))), (13, .v (.int .i64 (x14))), (14, .v (.int .i64 ((-1 : Int))))] ⟨rfl, rfl, rfl, rfl, rfl, rfl, rfl, rfl, rfl, trivial⟩ ⟨(-1 : Int), rfl, rfl, h17, h18, h19, h20, h21, h22, hrel, hF⟩
        · skip
          refine Exec.ifF rfl hb ?_
          refine Exec.run tyOk 400 rfl ?_
          refine Exec.draws tyOk [(0, true), (1, true), (2, true), (3, true), (4, true), (5, true), (6, true), (7, true), (8, true), (9, false), (10, false)] rfl (by kernel_rfl) ?_
          refine Exec.run tyOk 400 rfl ?_
          obtain ⟨q43, hF⟩ := req_some hF
          obtain ⟨c44, hr44, hd44⟩ := SlAt.get h17 q43
          obtain rfl := hr44
          refine Exec.fia tyOk rfl rfl rfl ⟨q43.1, q43.2, hd44.some⟩ ?_
          refine Exec.run tyOk 400 rfl ?_
          refine Exec.fld tyOk (x := .agg ⟨[.string ⟨⟨(atI x1 x13).Key⟩⟩, .int .i64 ((atI x1 x13).Val.Kind), .int .i64 ((atI x1 x13).Val.N), .string ⟨⟨(atI x1 x13).Val.S⟩⟩]⟩) rfl rfl rfl hd44 rfl rfl ?_
          refine Exec.run tyOk 400 rfl ?_
          obtain ⟨q45, hF⟩ := req_some hF
          obtain ⟨c46, hr46, hd46⟩ := SlAt.get h18 q45
          obtain rfl := hr46
          refine Exec.fia tyOk rfl rfl rfl ⟨q45.1, q45.2, hd46.some⟩ ?_
          refine Exec.run tyOk 400 rfl ?_
          refine Exec.fld tyOk (x := .agg ⟨[.string ⟨⟨(atI x3 x14).Key⟩⟩, .int .i64 ((atI x3 x14).Val.Kind), .int .i64 ((atI x3 x14).Val.N), .string ⟨⟨(atI x3 x14).Val.S⟩⟩]⟩) rfl rfl rfl hd46 rfl rfl ?_
          refine Exec.run tyOk 400 rfl ?_
          obtain ⟨x47, hx47, hF⟩ := bnd_some hF
          refine Exec.callS (.int .i64 (x47)) rfl rfl (h19.at hx47) ?_
          refine Exec.run tyOk 400 rfl ?_
          exact Exec.round [(0, .v (.slice a2 ((x1).length) (k2))), (1, .v (.slice a4 ((x3).length) (k4))), (2, .v (.func (.func f6) #[] ⟨ca6⟩)), (3, .v (.func (.func f8) #[] ⟨ca8⟩)), (4, .v (.func (.func f10) #[] ⟨ca10⟩)), (5, .v (.func (.func f12) #[] ⟨ca12⟩)), (12, .v (.int .i64 (x13))), (13, .v (.int .i64 (x14))), (14, .v (.int .i64 (x47)))] ⟨rfl, rfl, rfl, rfl, rfl, rfl, rfl, rfl, rfl, trivial⟩ ⟨x47, rfl, rfl, h17, h18, h19, h20, h21, h22, hrel, hF⟩
  · skip
    refine Exec.ifF rfl hb ?_
    refine Exec.run tyOk 400 rfl ?_
    obtain rfl := some_inj hF
    exact Exec.fall tyOk rfl rfl ⟨[r0, r1, r2], rfl, rfl, rfl, r0, r1, r2, rfl, hrel⟩



def F_mvstore_readable (x1 : TStore) (x3 : Int) : Option Int :=
  (cond ((decide (x3 < x1.Floor)) || (decide (x1.Last < x3))) (some (15 : Int)) (some (0 : Int)))

set_option maxRecDepth 100000 in
theorem W_mvstore_readable {V : View} (x1 : TStore) (x3 : Int) {a2 : Option Addr} {k2 : Nat} (h2 : SlAt cTRow V a2 k2 x1.Rows) {r : Int} (hF : F_mvstore_readable x1 x3 = some r) :
    Spec Tryz.prog 80 [.agg ⟨[.int .i64 (x1.Floor), .int .i64 (x1.Last), .slice a2 ((x1.Rows).length) (k2)]⟩, .int .i64 (x3)] V (fun _ v => v = .int .i64 (r)) := by
  unfold F_mvstore_readable at hF
  refine Spec.enter (T := tyT) Tryz.func80 rfl (by kernel_rfl) rfl rfl rfl ?_
  refine Exec.run tyOk 400 rfl ?_
  rcases cond_some hF with ⟨hb, hF⟩ | ⟨hb, hF⟩
  · skip
    refine Exec.ifT rfl hb ?_
    refine Exec.run tyOk 400 rfl ?_
    obtain rfl := some_inj hF
    exact Exec.ret tyOk rfl rfl rfl
  · skip
    refine Exec.ifF rfl hb ?_
    refine Exec.run tyOk 400 rfl ?_
    obtain rfl := some_inj hF
    exact Exec.ret tyOk rfl rfl rfl

def F_slices_Equal_api_Pair_api_Pair_L1 (x1 : List TPair) (x3 : List TPair) (J5 : Option Bool) : Nat → Int → Option Bool
  | 0, _ => none
  | n8 + 1, x7 => (cond (decide (x7 < (((x1).length : Nat) : Int))) (req (0 ≤ x7 ∧ x7 < ((x1).length : Int)) (req (0 ≤ x7 ∧ x7 < ((x3).length : Int)) (cond (!(((atI x1 x7).Key == (atI x3 x7).Key) && ((((atI x1 x7).Val.Kind == (atI x3 x7).Val.Kind) && (((atI x1 x7).Val.N == (atI x3 x7).Val.N) && (((atI x1 x7).Val.S == (atI x3 x7).Val.S) && true))) && true))) (some false) (F_slices_Equal_api_Pair_api_Pair_L1 x1 x3 J5 n8 ((IntKind.i64.wrap (x7 + (1 : Int)))))))) J5)

def F_slices_Equal_api_Pair_api_Pair (x1 : List TPair) (x3 : List TPair) : Option Bool :=
  (cond ((((x1).length : Nat) : Int) != (((x3).length : Nat) : Int)) (some false) (jn ((some true)) (fun J5 => (F_slices_Equal_api_Pair_api_Pair_L1 x1 x3 J5 (((((x1).length : Nat) : Int)).toNat + 1) ((0 : Int))))))

set_option maxRecDepth 100000 in
theorem W_slices_Equal_api_Pair_api_Pair {V : View} (x1 : List TPair) (x3 : List TPair) {a2 : Option Addr} {k2 : Nat} {a4 : Option Addr} {k4 : Nat} (h2 : SlAt cTPair V a2 k2 x1) (h4 : SlAt cTPair V a4 k4 x3) {r : Bool} (hF : F_slices_Equal_api_Pair_api_Pair x1 x3 = some r) :
    Spec Tryz.prog 82 [.slice a2 ((x1).length) (k2), .slice a4 ((x3).length) (k4)] V (fun _ v => v = .bool (r)) := by
  unfold F_slices_Equal_api_Pair_api_Pair at hF
  refine Spec.enter (T := tyT) Tryz.func82 rfl (by kernel_rfl) rfl rfl rfl ?_
  refine Exec.run tyOk 400 rfl ?_
  rcases cond_some hF with ⟨hb, hF⟩ | ⟨hb, hF⟩
  · skip
    refine Exec.ifT rfl hb ?_
    refine Exec.run tyOk 400 rfl ?_
    obtain rfl := some_inj hF
    exact Exec.ret tyOk rfl rfl rfl
  · skip
    refine Exec.ifF rfl hb ?_
    refine Exec.run tyOk 8 rfl ?_
    obtain ⟨J5, hJ5, hF⟩ := jn_some hF
    refine Exec.seam (fun L' V' M' => L' = [] ∧ M' = [] ∧ J5 = some r) rfl ?_ ?_
    · rintro L' V6 M' ⟨rfl, rfl, hF⟩
      subst hJ5
      refine Exec.run tyOk 400 rfl ?_
      obtain rfl := some_inj hF
      exact Exec.ret tyOk rfl rfl rfl
    · skip
      refine Exec.run tyOk 400 rfl ?_
      refine Exec.loop (fun n8 L' V' M' => ∃ (x7 : Int), L' = [(0, .v (.slice a2 ((x1).length) (k2))), (1, .v (.slice a4 ((x3).length) (k4))), (12, .v (.int .i64 ((((x1).length : Nat) : Int)))), (13, .v (.int .i64 (x7)))] ∧ M' = [] ∧ SlAt cTPair V' a2 k2 x1 ∧ SlAt cTPair V' a4 k4 x3 ∧ F_slices_Equal_api_Pair_api_Pair_L1 x1 x3 J5 n8 x7 = some r) ⟨(((((x1).length : Nat) : Int)).toNat + 1), [(0, .v (.slice a2 ((x1).length) (k2))), (1, .v (.slice a4 ((x3).length) (k4))), (12, .v (.int .i64 ((((x1).length : Nat) : Int)))), (13, .v (.int .i64 ((0 : Int))))], ⟨rfl, rfl, rfl, rfl, trivial⟩, (0 : Int), rfl, rfl, h2, h4, hF⟩ ?_
      rintro n8 L' V9 M' ⟨x7, rfl, rfl, h10, h11, hF⟩
      rcases n8 with _ | n8
      · exact absurd hF (by simp [F_slices_Equal_api_Pair_api_Pair_L1])
      rw [F_slices_Equal_api_Pair_api_Pair_L1] at hF
      refine Exec.run tyOk 400 rfl ?_
      rcases cond_some hF with ⟨hb, hF⟩ | ⟨hb, hF⟩
      · skip
        refine Exec.ifT rfl hb ?_
        refine Exec.run tyOk 400 rfl ?_
        refine Exec.draws tyOk [(0, true), (1, true), (2, true), (3, true), (4, true), (5, true), (6, true), (7, true), (8, true)] rfl (by kernel_rfl) ?_
        refine Exec.run tyOk 400 rfl ?_
        obtain ⟨q12, hF⟩ := req_some hF
        obtain ⟨c13, hr13, hd13⟩ := SlAt.get h10 q12
        obtain rfl := hr13
        refine Exec.fia tyOk rfl rfl rfl ⟨q12.1, q12.2, hd13.some⟩ ?_
        refine Exec.run tyOk 400 rfl ?_
        refine Exec.fld tyOk (x := .agg ⟨[.string ⟨⟨(atI x1 x7).Key⟩⟩, .int .i64 ((atI x1 x7).Val.Kind), .int .i64 ((atI x1 x7).Val.N), .string ⟨⟨(atI x1 x7).Val.S⟩⟩]⟩) rfl rfl rfl hd13 rfl rfl ?_
        refine Exec.run tyOk 400 rfl ?_
        obtain ⟨q14, hF⟩ := req_some hF
        obtain ⟨c15, hr15, hd15⟩ := SlAt.get h11 q14
        obtain rfl := hr15
        refine Exec.fia tyOk rfl rfl rfl ⟨q14.1, q14.2, hd15.some⟩ ?_
        refine Exec.run tyOk 400 rfl ?_
        refine Exec.fld tyOk (x := .agg ⟨[.string ⟨⟨(atI x3 x7).Key⟩⟩, .int .i64 ((atI x3 x7).Val.Kind), .int .i64 ((atI x3 x7).Val.N), .string ⟨⟨(atI x3 x7).Val.S⟩⟩]⟩) rfl rfl rfl hd15 rfl rfl ?_
        refine Exec.run tyOk 400 rfl ?_
        rcases cond_some hF with ⟨hb, hF⟩ | ⟨hb, hF⟩
        · skip
          refine Exec.ifT rfl hb ?_
          refine Exec.run tyOk 400 rfl ?_
          obtain rfl := some_inj hF
          exact Exec.ret tyOk rfl rfl rfl
        · skip
          refine Exec.ifF rfl hb ?_
          refine Exec.run tyOk 400 rfl ?_
          exact Exec.round [(0, .v (.slice a2 ((x1).length) (k2))), (1, .v (.slice a4 ((x3).length) (k4))), (12, .v (.int .i64 ((((x1).length : Nat) : Int)))), (13, .v (.int .i64 ((IntKind.i64.wrap (x7 + (1 : Int))))))] ⟨rfl, rfl, rfl, rfl, trivial⟩ ⟨n8, Nat.lt_succ_self _, (IntKind.i64.wrap (x7 + (1 : Int))), rfl, rfl, h10, h11, hF⟩
      · skip
        refine Exec.ifF rfl hb ?_
        refine Exec.run tyOk 400 rfl ?_
        exact Exec.round [] trivial ⟨rfl, rfl, hF⟩

def F_clockworkref22_state_L1 (x1 : TStore) (x3 : Int) (J7 : (List TPair) → Option (List TPair)) : Nat → (List TPair) → Int → Option (List TPair)
  | 0, _, _ => none
  | n15 + 1, x13, x14 => (cond (decide (x14 < (((x1.Rows).length : Nat) : Int))) (req (0 ≤ x14 ∧ x14 < ((x1.Rows).length : Int)) (bnd (F_clockworkref22_seen ((atI x1.Rows x14)) x3) fun x21 => (jn (fun (x23 : List TPair) => (F_clockworkref22_state_L1 x1 x3 J7 n15 x23 ((IntKind.i64.wrap (x14 + (1 : Int)))))) (fun J24 => (cond (x21.Kind != (0 : Int)) (req (0 ≤ x14 ∧ x14 < ((x1.Rows).length : Int)) (req (((x13 ++ [(⟨(atI x1.Rows x14).Key, x21⟩ : TPair)])).length * 48 ≤ 140737488355328) (J24 ((x13 ++ [(⟨(atI x1.Rows x14).Key, x21⟩ : TPair)]))))) (J24 x13)))))) (J7 x13))

def F_clockworkref22_state (x1 : TStore) (x3 : Int) : Option (List TPair) :=
  (jn (fun (x6 : List TPair) => (some x6)) (fun J7 => (F_clockworkref22_state_L1 x1 x3 J7 (((((x1.Rows).length : Nat) : Int)).toNat + 1) (([] : List TPair)) ((0 : Int)))))

set_option maxRecDepth 100000 in
theorem W_clockworkref22_state {V : View} (x1 : TStore) (x3 : Int) {a2 : Option Addr} {k2 : Nat} (h2 : SlAt cTRow V a2 k2 x1.Rows) {r : List TPair} (hF : F_clockworkref22_state x1 x3 = some r) :
    Spec Tryz.prog 83 [.agg ⟨[.int .i64 (x1.Floor), .int .i64 (x1.Last), .slice a2 ((x1.Rows).length) (k2)]⟩, .int .i64 (x3)] V (fun V' v => ∃ (a32 : Option Addr) (k32 : Nat), v = .slice a32 ((r).length) (k32) ∧ SlAt cTPair V' a32 k32 r) := by
  unfold F_clockworkref22_state at hF
  refine Spec.enter (T := tyT) Tryz.func83 rfl (by kernel_rfl) rfl rfl rfl ?_
  refine Exec.run tyOk 14 rfl ?_
  refine Exec.row0 55 4 rfl ?_
  have h4 : RowRep cTPair V ([] : List TPair) [] := RowRep.nil
  obtain ⟨J7, hJ7, hF⟩ := jn_some hF
  refine Exec.seam (fun L' V' M' => ∃ (x6 : List TPair) (a5 : Option Addr) (k5 : Nat) (cs5 : List Value), L' = [(5, .v (.slice a5 ((x6).length) (k5)))] ∧ M' = [.blk [.v (.int .i64 (x1.Floor)), .v (.int .i64 (x1.Last)), .v (.slice a2 ((x1.Rows).length) (k2))] 40, .row (.slice a5 ((x6).length) (k5)) cs5 55 4] ∧ RowRep cTPair V' x6 cs5 ∧ SlAt cTRow V' a2 k2 x1.Rows ∧ J7 x6 = some r) rfl ?_ ?_
  · rintro L' V8 M' ⟨x6, a5, k5, cs5, rfl, rfl, h5, h9, hF⟩
    subst hJ7
    refine Exec.run tyOk 400 rfl ?_
    refine Exec.frz 1 rfl rfl rfl (fun V10 hv10 hd10 hn10 => ?_)
    have hz10 := RowRep.slat h5 hv10 hd10 hn10
    have h11 := SlAt.mono h9 hv10
    obtain rfl := some_inj hF
    exact Exec.ret tyOk rfl rfl ⟨_, _, rfl, hz10⟩
  · skip
    refine Exec.run tyOk 400 rfl ?_
    refine Exec.loop (fun n15 L' V' M' => ∃ (x13 : List TPair) (a12 : Option Addr) (k12 : Nat) (cs12 : List Value) (x14 : Int), L' = [(1, .v (.int .i64 (x3))), (2, .ptr 0 0), (5, .v (.slice a12 ((x13).length) (k12))), (6, .v (.int .i64 (x14)))] ∧ M' = [.blk [.v (.int .i64 (x1.Floor)), .v (.int .i64 (x1.Last)), .v (.slice a2 ((x1.Rows).length) (k2))] 40, .row (.slice a12 ((x13).length) (k12)) cs12 55 4] ∧ RowRep cTPair V' x13 cs12 ∧ SlAt cTRow V' a2 k2 x1.Rows ∧ F_clockworkref22_state_L1 x1 x3 J7 n15 x13 x14 = some r) ⟨(((((x1.Rows).length : Nat) : Int)).toNat + 1), [(1, .v (.int .i64 (x3))), (2, .ptr 0 0), (5, .v (.slice none ((([] : List TPair)).length) (0))), (6, .v (.int .i64 ((0 : Int))))], ⟨rfl, rfl, rfl, rfl, trivial⟩, ([] : List TPair), none, 0, [], (0 : Int), rfl, rfl, h4, h2, hF⟩ ?_
    rintro n15 L' V16 M' ⟨x13, a12, k12, cs12, x14, rfl, rfl, h12, h17, hF⟩
    rcases n15 with _ | n15
    · exact absurd hF (by simp [F_clockworkref22_state_L1])
    rw [F_clockworkref22_state_L1] at hF
    refine Exec.run tyOk 400 rfl ?_
    rcases cond_some hF with ⟨hb, hF⟩ | ⟨hb, hF⟩
    · skip
      refine Exec.ifT rfl hb ?_
      refine Exec.run tyOk 400 rfl ?_
      obtain ⟨q18, hF⟩ := req_some hF
      obtain ⟨c19, hr19, hd19⟩ := SlAt.get h17 q18
      obtain ⟨a20, k20, rfl, h20⟩ := hr19
      refine Exec.ia tyOk rfl rfl ⟨q18.1, q18.2, hd19.some⟩ ?_
      refine Exec.run tyOk 400 rfl ?_
      refine Exec.ld tyOk (x := .agg ⟨[.string ⟨⟨(atI x1.Rows x14).Key⟩⟩, .slice a20 (((atI x1.Rows x14).Vers).length) (k20)]⟩) rfl rfl hd19 rfl rfl ?_
      refine Exec.run tyOk 400 rfl ?_
      obtain ⟨x21, hx21, hF⟩ := bnd_some hF
      refine Exec.callS (.agg ⟨[.int .i64 (x21.Kind), .int .i64 (x21.N), .string ⟨⟨x21.S⟩⟩]⟩) rfl rfl (W_clockworkref22_seen ((atI x1.Rows x14)) x3 h20 hx21) ?_
      refine Exec.run tyOk 400 rfl ?_
      obtain ⟨J24, hJ24, hF⟩ := jn_some hF
      refine Exec.seam (fun L' V' M' => ∃ (x23 : List TPair) (a22 : Option Addr) (k22 : Nat) (cs22 : List Value), L' = [(1, .v (.int .i64 (x3))), (2, .ptr 0 0), (5, .v (.slice a22 ((x23).length) (k22))), (6, .v (.int .i64 (x14)))] ∧ M' = [.blk [.v (.int .i64 (x1.Floor)), .v (.int .i64 (x1.Last)), .v (.slice a2 ((x1.Rows).length) (k2))] 40, .row (.slice a22 ((x23).length) (k22)) cs22 55 4] ∧ RowRep cTPair V' x23 cs22 ∧ SlAt cTRow V' a2 k2 x1.Rows ∧ J24 x23 = some r) rfl ?_ ?_
      · rintro L' V25 M' ⟨x23, a22, k22, cs22, rfl, rfl, h22, h26, hF⟩
        subst hJ24
        refine Exec.run tyOk 400 rfl ?_
        exact Exec.round [(1, .v (.int .i64 (x3))), (2, .ptr 0 0), (5, .v (.slice a22 ((x23).length) (k22))), (6, .v (.int .i64 ((IntKind.i64.wrap (x14 + (1 : Int))))))] ⟨rfl, rfl, rfl, rfl, trivial⟩ ⟨n15, Nat.lt_succ_self _, x23, a22, k22, cs22, (IntKind.i64.wrap (x14 + (1 : Int))), rfl, rfl, h22, h26, hF⟩
      · skip
        refine Exec.run tyOk 400 rfl ?_
        rcases cond_some hF with ⟨hb, hF⟩ | ⟨hb, hF⟩
        · skip
          refine Exec.ifT rfl hb ?_
          refine Exec.run tyOk 400 rfl ?_
          refine Exec.drawsE tyOk [10] [] [(0, true), (1, true), (2, true), (3, true), (4, true), (5, true), (6, true), (7, true), (8, true), (9, false), (10, false), (11, false)] (by kernel_rfl) ?_
          refine Exec.run tyOk 400 rfl ?_
          obtain ⟨q27, hF⟩ := req_some hF
          obtain ⟨c28, hr28, hd28⟩ := SlAt.get h17 q27
          obtain ⟨a29, k29, rfl, h29⟩ := hr28
          refine Exec.fia tyOk rfl rfl rfl ⟨q27.1, q27.2, hd28.some⟩ ?_
          refine Exec.run tyOk 400 rfl ?_
          refine Exec.fld tyOk (x := .string ⟨⟨(atI x1.Rows x14).Key⟩⟩) rfl rfl rfl (RdAt.part hd28 0 1 rfl) rfl rfl ?_
          refine Exec.run tyOk 400 rfl ?_
          refine Exec.bsl tyOk rfl rfl ?_
          refine Exec.run tyOk 400 rfl ?_
          obtain ⟨q31, hF⟩ := req_some hF
          refine Exec.app tyOk 1 3 (nm := ((x13 ++ [(⟨(atI x1.Rows x14).Key, x21⟩ : TPair)])).length) rfl rfl rfl rfl rfl rfl rfl rfl rfl (by simp) (fun _ _ => rfl) rfl q31 (fun a30 k30 => ?_)
          have h30 : RowRep cTPair V16 (x13 ++ [(⟨(atI x1.Rows x14).Key, x21⟩ : TPair)]) (cs12 ++ [.string ⟨⟨(atI x1.Rows x14).Key⟩⟩, .int .i64 (x21.Kind), .int .i64 (x21.N), .string ⟨⟨x21.S⟩⟩]) := RowRep.app h12 ⟨_, _, rfl, rfl, rfl⟩
          refine Exec.run tyOk 400 rfl ?_
          refine Exec.cut 2 [(1, .v (.int .i64 (x3))), (2, .ptr 0 0), (5, .v (.slice a30 (((x13 ++ [(⟨(atI x1.Rows x14).Key, x21⟩ : TPair)])).length) (k30))), (6, .v (.int .i64 (x14)))] (M' := [.blk [.v (.int .i64 (x1.Floor)), .v (.int .i64 (x1.Last)), .v (.slice a2 ((x1.Rows).length) (k2))] 40, .row (.slice a30 (((x13 ++ [(⟨(atI x1.Rows x14).Key, x21⟩ : TPair)])).length) (k30)) ((cs12 ++ [.string ⟨⟨(atI x1.Rows x14).Key⟩⟩, .int .i64 (x21.Kind), .int .i64 (x21.N), .string ⟨⟨x21.S⟩⟩])) 55 4]) rfl ⟨rfl, rfl, rfl, rfl, trivial⟩ rfl rfl rfl ?_
          exact Exec.round [(1, .v (.int .i64 (x3))), (2, .ptr 0 0), (5, .v (.slice a30 (((x13 ++ [(⟨(atI x1.Rows x14).Key, x21⟩ : TPair)])).length) (k30))), (6, .v (.int .i64 (x14)))] ⟨rfl, rfl, rfl, rfl, trivial⟩ ⟨(x13 ++ [(⟨(atI x1.Rows x14).Key, x21⟩ : TPair)]), a30, k30, (cs12 ++ [.string ⟨⟨(atI x1.Rows x14).Key⟩⟩, .int .i64 (x21.Kind), .int .i64 (x21.N), .string ⟨⟨x21.S⟩⟩]), rfl, rfl, h30, h17, hF⟩
        · skip
          refine Exec.ifF rfl hb ?_
          refine Exec.run tyOk 400 rfl ?_
          refine Exec.cut 2 [(1, .v (.int .i64 (x3))), (2, .ptr 0 0), (5, .v (.slice a12 ((x13).length) (k12))), (6, .v (.int .i64 (x14)))] (M' := [.blk [.v (.int .i64 (x1.Floor)), .v (.int .i64 (x1.Last)), .v (.slice a2 ((x1.Rows).length) (k2))] 40, .row (.slice a12 ((x13).length) (k12)) cs12 55 4]) rfl ⟨rfl, rfl, rfl, rfl, trivial⟩ rfl rfl rfl ?_
          exact Exec.round [(1, .v (.int .i64 (x3))), (2, .ptr 0 0), (5, .v (.slice a12 ((x13).length) (k12))), (6, .v (.int .i64 (x14)))] ⟨rfl, rfl, rfl, rfl, trivial⟩ ⟨x13, a12, k12, cs12, rfl, rfl, h12, h17, hF⟩
    · skip
      refine Exec.ifF rfl hb ?_
      refine Exec.run tyOk 400 rfl ?_
      exact Exec.round [(5, .v (.slice a12 ((x13).length) (k12)))] ⟨rfl, trivial⟩ ⟨x13, a12, k12, cs12, rfl, rfl, h12, h17, hF⟩

def F_clockworkref04_Valid_L1 (x1 : Str) (J2 : Option Bool) : Nat → Int → Option Bool
  | 0, _ => none
  | n5 + 1, x4 => (cond (decide (x4 < ((x1).length : Int))) (req (0 ≤ x4 ∧ x4 < ((x1).length : Int)) (cond (((((((decide ((byteAt x1 (x4).toNat) < (97 : Int))) || (decide ((122 : Int) < (byteAt x1 (x4).toNat)))) && ((decide ((byteAt x1 (x4).toNat) < (48 : Int))) || (decide ((57 : Int) < (byteAt x1 (x4).toNat))))) && ((byteAt x1 (x4).toNat) != (47 : Int))) && ((byteAt x1 (x4).toNat) != (46 : Int))) && ((byteAt x1 (x4).toNat) != (95 : Int))) && ((byteAt x1 (x4).toNat) != (45 : Int))) (some false) (F_clockworkref04_Valid_L1 x1 J2 n5 ((IntKind.i64.wrap (x4 + (1 : Int))))))) J2)

def F_clockworkref04_Valid (x1 : Str) : Option Bool :=
  (jn ((some ((decide ((1 : Int) ≤ ((x1).length : Int))) && (decide (((x1).length : Int) ≤ (24 : Int)))))) (fun J2 => (F_clockworkref04_Valid_L1 x1 J2 ((((x1).length : Int)).toNat + 1) ((0 : Int)))))

set_option maxRecDepth 100000 in
theorem W_clockworkref04_Valid {V : View} (x1 : Str)   {r : Bool} (hF : F_clockworkref04_Valid x1 = some r) :
    Spec Tryz.prog 88 [.string ⟨⟨x1⟩⟩] V (fun _ v => v = .bool (r)) := by
  unfold F_clockworkref04_Valid at hF
  refine Spec.enter (T := tyT) Tryz.func88 rfl (by kernel_rfl) rfl rfl rfl ?_
  refine Exec.run tyOk 9 rfl ?_
  obtain ⟨J2, hJ2, hF⟩ := jn_some hF
  refine Exec.seam (fun L' V' M' => L' = [(0, .v (.string ⟨⟨x1⟩⟩))] ∧ M' = [] ∧ J2 = some r) rfl ?_ ?_
  · rintro L' V3 M' ⟨rfl, rfl, hF⟩
    subst hJ2
    refine Exec.run tyOk 400 rfl ?_
    obtain rfl := some_inj hF
    exact Exec.ret tyOk rfl rfl rfl
  · skip
    refine Exec.run tyOk 400 rfl ?_
    refine Exec.loop (fun n5 L' V' M' => ∃ (x4 : Int), L' = [(0, .v (.string ⟨⟨x1⟩⟩)), (3, .v (.int .i64 (x4)))] ∧ M' = [] ∧ F_clockworkref04_Valid_L1 x1 J2 n5 x4 = some r) ⟨((((x1).length : Int)).toNat + 1), [(0, .v (.string ⟨⟨x1⟩⟩)), (3, .v (.int .i64 ((0 : Int))))], ⟨rfl, rfl, trivial⟩, (0 : Int), rfl, rfl, hF⟩ ?_
    rintro n5 L' V6 M' ⟨x4, rfl, rfl, hF⟩
    rcases n5 with _ | n5
    · exact absurd hF (by simp [F_clockworkref04_Valid_L1])
    rw [F_clockworkref04_Valid_L1] at hF
    refine Exec.run tyOk 400 rfl ?_
    rcases cond_some hF with ⟨hb, hF⟩ | ⟨hb, hF⟩
    · skip
      refine Exec.ifT rfl hb ?_
      refine Exec.run tyOk 400 rfl ?_
      obtain ⟨q7, hF⟩ := req_some hF
      refine Exec.idx tyOk rfl rfl q7 ?_
      refine Exec.run tyOk 400 rfl ?_
      rcases cond_some hF with ⟨hb, hF⟩ | ⟨hb, hF⟩
      · skip
        refine Exec.ifT rfl hb ?_
        refine Exec.run tyOk 400 rfl ?_
        obtain rfl := some_inj hF
        exact Exec.ret tyOk rfl rfl rfl
      · skip
        refine Exec.ifF rfl hb ?_
        refine Exec.run tyOk 400 rfl ?_
        exact Exec.round [(0, .v (.string ⟨⟨x1⟩⟩)), (3, .v (.int .i64 ((IntKind.i64.wrap (x4 + (1 : Int))))))] ⟨rfl, rfl, trivial⟩ ⟨n5, Nat.lt_succ_self _, (IntKind.i64.wrap (x4 + (1 : Int))), rfl, rfl, hF⟩
    · skip
      refine Exec.ifF rfl hb ?_
      refine Exec.run tyOk 400 rfl ?_
      exact Exec.round [(0, .v (.string ⟨⟨x1⟩⟩))] ⟨rfl, trivial⟩ ⟨rfl, rfl, hF⟩

def F_clockworkref53_bytes_L1 (J5 : (List Int) → Option Str) : Nat → (List Int) → Int → Int → Option Str
  | 0, _, _, _ => none
  | n12 + 1, x9, x10, x11 => (cond (decide (x11 < (8 : Int))) (req ((256 : Int) ≠ 0) (req (((x9 ++ [(IntKind.u8.wrap (remI x10 (256 : Int)))])).length * 1 ≤ 140737488355328) (req ((256 : Int) ≠ 0) (F_clockworkref53_bytes_L1 J5 n12 ((x9 ++ [(IntKind.u8.wrap (remI x10 (256 : Int)))])) ((quoI .u64 x10 (256 : Int))) ((IntKind.i64.wrap (x11 + (1 : Int)))))))) (J5 x9))

def F_clockworkref53_bytes (x1 : Int) : Option Str :=
  (jn (fun (x4 : List Int) => (some (bytesS x4))) (fun J5 => (F_clockworkref53_bytes_L1 J5 (((8 : Int)).toNat + 1) (([] : List Int)) x1 ((0 : Int)))))

set_option maxRecDepth 100000 in
theorem W_clockworkref53_bytes {V : View} (x1 : Int)   {r : Str} (hF : F_clockworkref53_bytes x1 = some r) :
    Spec Tryz.prog 92 [.int .u64 (x1)] V (fun _ v => v = .string ⟨⟨r⟩⟩) := by
  unfold F_clockworkref53_bytes at hF
  refine Spec.enter (T := tyT) Tryz.func92 rfl (by kernel_rfl) rfl rfl rfl ?_
  refine Exec.run tyOk 13 rfl ?_
  refine Exec.row0 5 1 rfl ?_
  have h2 : RowRep (cInt .u8) V ([] : List Int) [] := RowRep.nil
  obtain ⟨J5, hJ5, hF⟩ := jn_some hF
  refine Exec.seam (fun L' V' M' => ∃ (x4 : List Int) (a3 : Option Addr) (k3 : Nat) (cs3 : List Value), L' = [(3, .v (.slice a3 ((x4).length) (k3)))] ∧ M' = [.row (.slice a3 ((x4).length) (k3)) cs3 5 1] ∧ RowRep (cInt .u8) V' x4 cs3 ∧ J5 x4 = some r) rfl ?_ ?_
  · rintro L' V6 M' ⟨x4, a3, k3, cs3, rfl, rfl, h3, hF⟩
    subst hJ5
    refine Exec.run tyOk 400 rfl ?_
    refine Exec.frz 0 rfl rfl rfl (fun V7 hv7 hd7 hn7 => ?_)
    have hz7 := RowRep.slat h3 hv7 hd7 hn7
    refine Exec.b2sV tyOk rfl rfl rfl rfl rfl rfl rfl hz7 (by simp) ?_
    refine Exec.run tyOk 400 rfl ?_
    obtain rfl := some_inj hF
    exact Exec.ret tyOk rfl rfl rfl
  · skip
    refine Exec.run tyOk 400 rfl ?_
    refine Exec.loop (fun n12 L' V' M' => ∃ (x9 : List Int) (a8 : Option Addr) (k8 : Nat) (cs8 : List Value) (x10 : Int) (x11 : Int), L' = [(0, .v (.int .u64 (x10))), (3, .v (.slice a8 ((x9).length) (k8))), (4, .v (.int .i64 (x11)))] ∧ M' = [.row (.slice a8 ((x9).length) (k8)) cs8 5 1] ∧ RowRep (cInt .u8) V' x9 cs8 ∧ F_clockworkref53_bytes_L1 J5 n12 x9 x10 x11 = some r) ⟨(((8 : Int)).toNat + 1), [(0, .v (.int .u64 (x1))), (3, .v (.slice none ((([] : List Int)).length) (0))), (4, .v (.int .i64 ((0 : Int))))], ⟨rfl, rfl, rfl, trivial⟩, ([] : List Int), none, 0, [], x1, (0 : Int), rfl, rfl, h2, hF⟩ ?_
    rintro n12 L' V13 M' ⟨x9, a8, k8, cs8, x10, x11, rfl, rfl, h8, hF⟩
    rcases n12 with _ | n12
    · exact absurd hF (by simp [F_clockworkref53_bytes_L1])
    rw [F_clockworkref53_bytes_L1] at hF
    refine Exec.run tyOk 400 rfl ?_
    rcases cond_some hF with ⟨hb, hF⟩ | ⟨hb, hF⟩
    · skip
      refine Exec.ifT rfl hb ?_
      refine Exec.run tyOk 400 rfl ?_
      obtain ⟨q14, hF⟩ := req_some hF
      refine Exec.ari rfl rfl q14 ?_
      refine Exec.run tyOk 400 rfl ?_
      refine Exec.bsl tyOk rfl rfl ?_
      refine Exec.run tyOk 400 rfl ?_
      obtain ⟨q16, hF⟩ := req_some hF
      refine Exec.app tyOk 0 1 (nm := ((x9 ++ [(IntKind.u8.wrap (remI x10 (256 : Int)))])).length) rfl rfl rfl rfl rfl rfl rfl rfl rfl (by simp) (fun _ _ => rfl) rfl q16 (fun a15 k15 => ?_)
      have h15 : RowRep (cInt .u8) V13 (x9 ++ [(IntKind.u8.wrap (remI x10 (256 : Int)))]) (cs8 ++ [.int .u8 ((IntKind.u8.wrap (remI x10 (256 : Int))))]) := RowRep.app h8 ⟨_, _, rfl, rfl, rfl⟩
      refine Exec.run tyOk 400 rfl ?_
      obtain ⟨q17, hF⟩ := req_some hF
      refine Exec.ari rfl rfl q17 ?_
      refine Exec.run tyOk 400 rfl ?_
      refine Exec.cut 1 [(0, .v (.int .u64 ((quoI .u64 x10 (256 : Int))))), (3, .v (.slice a15 (((x9 ++ [(IntKind.u8.wrap (remI x10 (256 : Int)))])).length) (k15))), (4, .v (.int .i64 ((IntKind.i64.wrap (x11 + (1 : Int))))))] (M' := [.row (.slice a15 (((x9 ++ [(IntKind.u8.wrap (remI x10 (256 : Int)))])).length) (k15)) ((cs8 ++ [.int .u8 ((IntKind.u8.wrap (remI x10 (256 : Int))))])) 5 1]) rfl ⟨rfl, rfl, rfl, trivial⟩ rfl rfl rfl ?_
      exact Exec.round [(0, .v (.int .u64 ((quoI .u64 x10 (256 : Int))))), (3, .v (.slice a15 (((x9 ++ [(IntKind.u8.wrap (remI x10 (256 : Int)))])).length) (k15))), (4, .v (.int .i64 ((IntKind.i64.wrap (x11 + (1 : Int))))))] ⟨rfl, rfl, rfl, trivial⟩ ⟨n12, Nat.lt_succ_self _, (x9 ++ [(IntKind.u8.wrap (remI x10 (256 : Int)))]), a15, k15, (cs8 ++ [.int .u8 ((IntKind.u8.wrap (remI x10 (256 : Int))))]), (quoI .u64 x10 (256 : Int)), (IntKind.i64.wrap (x11 + (1 : Int))), rfl, rfl, h15, hF⟩
    · skip
      refine Exec.ifF rfl hb ?_
      refine Exec.run tyOk 400 rfl ?_
      exact Exec.round [(3, .v (.slice a8 ((x9).length) (k8)))] ⟨rfl, trivial⟩ ⟨x9, a8, k8, cs8, rfl, rfl, h8, hF⟩

def F_state_absent (x1 : TPair) : Option Bool :=
  (some (x1.Val.Kind == (0 : Int)))

set_option maxRecDepth 100000 in
theorem W_state_absent {V : View} (x1 : TPair)   {r : Bool} (hF : F_state_absent x1 = some r) :
    Spec Tryz.prog 95 [.agg ⟨[.string ⟨⟨x1.Key⟩⟩, .int .i64 (x1.Val.Kind), .int .i64 (x1.Val.N), .string ⟨⟨x1.Val.S⟩⟩]⟩] V (fun _ v => v = .bool (r)) := by
  unfold F_state_absent at hF
  refine Spec.enter (T := tyT) Tryz.func95 rfl (by kernel_rfl) rfl rfl rfl ?_
  refine Exec.run tyOk 400 rfl ?_
  obtain rfl := some_inj hF
  exact Exec.ret tyOk rfl rfl rfl

def F_strings_Compare (x1 x2 : Str) : Option Int := some (Go.Lib.compareBytes x1 x2)

theorem W_strings_Compare {V : View} (x1 x2 : Str) {r : Int} (hF : F_strings_Compare x1 x2 = some r) :
    Spec Tryz.prog 96 [.string ⟨⟨x1⟩⟩, .string ⟨⟨x2⟩⟩] V (fun _ v => v = .int .i64 r) := by
  obtain rfl := some_inj hF
  exact Spec.pure ⟨_, Tryz.func96, by kernel_rfl, by kernel_rfl⟩ (fun w => Tryz.strings_Compare ⟨⟨x1⟩⟩ ⟨⟨x2⟩⟩ w)


def F_clockworkref03_Extend_L1 (x2 : Str) (J4 : Int → Option Int) : Nat → Int → Int → Option Int
  | 0, _, _ => none
  | n8 + 1, x6, x7 => (cond (decide (x7 < ((x2).length : Int))) (req (0 ≤ x7 ∧ x7 < ((x2).length : Int)) (F_clockworkref03_Extend_L1 x2 J4 n8 ((IntKind.u64.wrap ((bits .xor .u64 x6 (IntKind.u64.wrap (byteAt x2 (x7).toNat))) * (1099511628211 : Int)))) ((IntKind.i64.wrap (x7 + (1 : Int)))))) (J4 x6))

def F_clockworkref03_Extend (x1 : Int) (x2 : Str) : Option Int :=
  (jn (fun (x3 : Int) => (some x3)) (fun J4 => (F_clockworkref03_Extend_L1 x2 J4 ((((x2).length : Int)).toNat + 1) x1 ((0 : Int)))))

set_option maxRecDepth 100000 in
theorem W_clockworkref03_Extend {V : View} (x1 : Int) (x2 : Str)   {r : Int} (hF : F_clockworkref03_Extend x1 x2 = some r) :
    Spec Tryz.prog 109 [.int .u64 (x1), .string ⟨⟨x2⟩⟩] V (fun _ v => v = .int .u64 (r)) := by
  unfold F_clockworkref03_Extend at hF
  refine Spec.enter (T := tyT) Tryz.func109 rfl (by kernel_rfl) rfl rfl rfl ?_
  refine Exec.run tyOk 9 rfl ?_
  obtain ⟨J4, hJ4, hF⟩ := jn_some hF
  refine Exec.seam (fun L' V' M' => ∃ (x3 : Int), L' = [(0, .v (.int .u64 (x3)))] ∧ M' = [] ∧ J4 x3 = some r) rfl ?_ ?_
  · rintro L' V5 M' ⟨x3, rfl, rfl, hF⟩
    subst hJ4
    refine Exec.run tyOk 400 rfl ?_
    obtain rfl := some_inj hF
    exact Exec.ret tyOk rfl rfl rfl
  · skip
    refine Exec.run tyOk 400 rfl ?_
    refine Exec.loop (fun n8 L' V' M' => ∃ (x6 : Int) (x7 : Int), L' = [(0, .v (.int .u64 (x6))), (1, .v (.string ⟨⟨x2⟩⟩)), (5, .v (.int .i64 (x7)))] ∧ M' = [] ∧ F_clockworkref03_Extend_L1 x2 J4 n8 x6 x7 = some r) ⟨((((x2).length : Int)).toNat + 1), [(0, .v (.int .u64 (x1))), (1, .v (.string ⟨⟨x2⟩⟩)), (5, .v (.int .i64 ((0 : Int))))], ⟨rfl, rfl, rfl, trivial⟩, x1, (0 : Int), rfl, rfl, hF⟩ ?_
    rintro n8 L' V9 M' ⟨x6, x7, rfl, rfl, hF⟩
    rcases n8 with _ | n8
    · exact absurd hF (by simp [F_clockworkref03_Extend_L1])
    rw [F_clockworkref03_Extend_L1] at hF
    refine Exec.run tyOk 400 rfl ?_
    rcases cond_some hF with ⟨hb, hF⟩ | ⟨hb, hF⟩
    · skip
      refine Exec.ifT rfl hb ?_
      refine Exec.run tyOk 400 rfl ?_
      obtain ⟨q10, hF⟩ := req_some hF
      refine Exec.idx tyOk rfl rfl q10 ?_
      refine Exec.run tyOk 400 rfl ?_
      exact Exec.round [(0, .v (.int .u64 ((IntKind.u64.wrap ((bits .xor .u64 x6 (IntKind.u64.wrap (byteAt x2 (x7).toNat))) * (1099511628211 : Int)))))), (1, .v (.string ⟨⟨x2⟩⟩)), (5, .v (.int .i64 ((IntKind.i64.wrap (x7 + (1 : Int))))))] ⟨rfl, rfl, rfl, trivial⟩ ⟨n8, Nat.lt_succ_self _, (IntKind.u64.wrap ((bits .xor .u64 x6 (IntKind.u64.wrap (byteAt x2 (x7).toNat))) * (1099511628211 : Int))), (IntKind.i64.wrap (x7 + (1 : Int))), rfl, rfl, hF⟩
    · skip
      refine Exec.ifF rfl hb ?_
      refine Exec.run tyOk 400 rfl ?_
      exact Exec.round [(0, .v (.int .u64 (x6)))] ⟨rfl, trivial⟩ ⟨x6, rfl, rfl, hF⟩

def F_keys_consists_L1 (x1 : Str) (g3 : Int → Option Bool) (J4 : Option Bool) : Nat → Int → Option Bool
  | 0, _ => none
  | n7 + 1, x6 => (cond (decide (x6 < ((x1).length : Int))) (req (0 ≤ x6 ∧ x6 < ((x1).length : Int)) (bnd (g3 ((byteAt x1 (x6).toNat))) fun x11 => (cond (!x11) (some false) (F_keys_consists_L1 x1 g3 J4 n7 ((IntKind.i64.wrap (x6 + (1 : Int)))))))) J4)

def F_keys_consists (x1 : Str) (g3 : Int → Option Bool) : Option Bool :=
  (cond (decide ((24 : Int) < ((x1).length : Int))) (some false) (jn ((some true)) (fun J4 => (F_keys_consists_L1 x1 g3 J4 ((((x1).length : Int)).toNat + 1) ((0 : Int))))))

set_option maxRecDepth 100000 in
theorem W_keys_consists {V : View} (x1 : Str) (g3 : Int → Option Bool) {f3 : Nat} {ca3 : List Value}  (hg3 : FnSpec1 Tryz.prog f3 ca3 V (fun (y : Int) => .int .u8 (y)) (fun (r : Bool) => .bool (r)) g3) {r : Bool} (hF : F_keys_consists x1 g3 = some r) :
    Spec Tryz.prog 110 [.string ⟨⟨x1⟩⟩, .func (.func f3) #[] ⟨ca3⟩] V (fun _ v => v = .bool (r)) := by
  unfold F_keys_consists at hF
  refine Spec.enter (T := tyT) Tryz.func110 rfl (by kernel_rfl) rfl rfl rfl ?_
  refine Exec.run tyOk 400 rfl ?_
  rcases cond_some hF with ⟨hb, hF⟩ | ⟨hb, hF⟩
  · skip
    refine Exec.ifT rfl hb ?_
    refine Exec.run tyOk 400 rfl ?_
    obtain rfl := some_inj hF
    exact Exec.ret tyOk rfl rfl rfl
  · skip
    refine Exec.ifF rfl hb ?_
    refine Exec.run tyOk 8 rfl ?_
    obtain ⟨J4, hJ4, hF⟩ := jn_some hF
    refine Exec.seam (fun L' V' M' => L' = [] ∧ M' = [] ∧ J4 = some r) rfl ?_ ?_
    · rintro L' V5 M' ⟨rfl, rfl, hF⟩
      subst hJ4
      refine Exec.run tyOk 400 rfl ?_
      obtain rfl := some_inj hF
      exact Exec.ret tyOk rfl rfl rfl
    · skip
      refine Exec.run tyOk 400 rfl ?_
      refine Exec.loop (fun n7 L' V' M' => ∃ (x6 : Int), L' = [(0, .v (.string ⟨⟨x1⟩⟩)), (1, .v (.func (.func f3) #[] ⟨ca3⟩)), (10, .v (.int .i64 (((x1).length : Int)))), (11, .v (.int .i64 (x6)))] ∧ M' = [] ∧ FnSpec1 Tryz.prog f3 ca3 V' (fun (y : Int) => .int .u8 (y)) (fun (r : Bool) => .bool (r)) g3 ∧ F_keys_consists_L1 x1 g3 J4 n7 x6 = some r) ⟨((((x1).length : Int)).toNat + 1), [(0, .v (.string ⟨⟨x1⟩⟩)), (1, .v (.func (.func f3) #[] ⟨ca3⟩)), (10, .v (.int .i64 (((x1).length : Int)))), (11, .v (.int .i64 ((0 : Int))))], ⟨rfl, rfl, rfl, rfl, trivial⟩, (0 : Int), rfl, rfl, hg3, hF⟩ ?_
      rintro n7 L' V8 M' ⟨x6, rfl, rfl, h9, hF⟩
      rcases n7 with _ | n7
      · exact absurd hF (by simp [F_keys_consists_L1])
      rw [F_keys_consists_L1] at hF
      refine Exec.run tyOk 400 rfl ?_
      rcases cond_some hF with ⟨hb, hF⟩ | ⟨hb, hF⟩
      · skip
        refine Exec.ifT rfl hb ?_
        refine Exec.run tyOk 400 rfl ?_
        obtain ⟨q10, hF⟩ := req_some hF
        refine Exec.idx tyOk rfl rfl q10 ?_
        refine Exec.run tyOk 400 rfl ?_
        obtain ⟨x11, hx11, hF⟩ := bnd_some hF
        refine Exec.callS (.bool (x11)) rfl rfl (h9.at hx11) ?_
        refine Exec.run tyOk 400 rfl ?_
        rcases cond_some hF with ⟨hb, hF⟩ | ⟨hb, hF⟩
        · skip
          refine Exec.ifT rfl hb ?_
          refine Exec.run tyOk 400 rfl ?_
          obtain rfl := some_inj hF
          exact Exec.ret tyOk rfl rfl rfl
        · skip
          refine Exec.ifF rfl hb ?_
          refine Exec.run tyOk 400 rfl ?_
          exact Exec.round [(0, .v (.string ⟨⟨x1⟩⟩)), (1, .v (.func (.func f3) #[] ⟨ca3⟩)), (10, .v (.int .i64 (((x1).length : Int)))), (11, .v (.int .i64 ((IntKind.i64.wrap (x6 + (1 : Int))))))] ⟨rfl, rfl, rfl, rfl, trivial⟩ ⟨n7, Nat.lt_succ_self _, (IntKind.i64.wrap (x6 + (1 : Int))), rfl, rfl, h9, hF⟩
      · skip
        refine Exec.ifF rfl hb ?_
        refine Exec.run tyOk 400 rfl ?_
        exact Exec.round [] trivial ⟨rfl, rfl, hF⟩

def F_keys_Valid_1 (x1 : Int) : Option Bool :=
  (some (((((((decide ((97 : Int) ≤ x1)) && (decide (x1 ≤ (122 : Int)))) || ((decide ((48 : Int) ≤ x1)) && (decide (x1 ≤ (57 : Int))))) || (x1 == (47 : Int))) || (x1 == (46 : Int))) || (x1 == (95 : Int))) || (x1 == (45 : Int))))

set_option maxRecDepth 100000 in
theorem W_keys_Valid_1 {V : View} (x1 : Int)   {r : Bool} (hF : F_keys_Valid_1 x1 = some r) :
    Spec Tryz.prog 111 [.int .u8 (x1)] V (fun _ v => v = .bool (r)) := by
  unfold F_keys_Valid_1 at hF
  refine Spec.enter (T := tyT) Tryz.func111 rfl (by kernel_rfl) rfl rfl rfl ?_
  refine Exec.run tyOk 400 rfl ?_
  obtain rfl := some_inj hF
  exact Exec.ret tyOk rfl rfl rfl

def F_mvstore_seen_L1 (x1 : TRow) (x3 : Int) (J5 : Int → Option Int) : Nat → Int → Option Int
  | 0, _ => none
  | n8 + 1, x7 => (req ((((decide (x7 < (((x1.Vers).length : Nat) : Int)))) == true) = true → 0 ≤ x7 ∧ x7 < ((x1.Vers).length : Int)) (cond ((decide (x7 < (((x1.Vers).length : Nat) : Int))) && (decide ((cond (((decide (x7 < (((x1.Vers).length : Nat) : Int)))) == true) (atI x1.Vers x7) default).At ≤ x3))) (F_mvstore_seen_L1 x1 x3 J5 n8 ((IntKind.i64.wrap (x7 + (1 : Int))))) (J5 x7)))

def F_mvstore_seen (x1 : TRow) (x3 : Int) : Option Int :=
  (jn (fun (x4 : Int) => (some x4)) (fun J5 => (F_mvstore_seen_L1 x1 x3 J5 (1000000 : Nat) ((0 : Int)))))

set_option maxRecDepth 100000 in
theorem W_mvstore_seen {V : View} (x1 : TRow) (x3 : Int) {a2 : Option Addr} {k2 : Nat} (h2 : SlAt cTVersion V a2 k2 x1.Vers) {r : Int} (hF : F_mvstore_seen x1 x3 = some r) :
    Spec Tryz.prog 114 [.agg ⟨[.string ⟨⟨x1.Key⟩⟩, .slice a2 ((x1.Vers).length) (k2)]⟩, .int .i64 (x3)] V (fun _ v => v = .int .i64 (r)) := by
  unfold F_mvstore_seen at hF
  refine Spec.enter (T := tyT) Tryz.func114 rfl (by kernel_rfl) rfl rfl rfl ?_
  refine Exec.run tyOk 10 rfl ?_
  obtain ⟨J5, hJ5, hF⟩ := jn_some hF
  refine Exec.seam (fun L' V' M' => ∃ (x4 : Int), L' = [(5, .v (.int .i64 (x4)))] ∧ M' = [] ∧ J5 x4 = some r) rfl ?_ ?_
  · rintro L' V6 M' ⟨x4, rfl, rfl, hF⟩
    subst hJ5
    refine Exec.run tyOk 400 rfl ?_
    obtain rfl := some_inj hF
    exact Exec.ret tyOk rfl rfl rfl
  · skip
    refine Exec.run tyOk 400 rfl ?_
    refine Exec.loop (fun n8 L' V' M' => ∃ (x7 : Int), L' = [(1, .v (.int .i64 (x3))), (2, .ptr 0 0), (5, .v (.int .i64 (x7)))] ∧ M' = [.blk [.v (.string ⟨⟨x1.Key⟩⟩), .v (.slice a2 ((x1.Vers).length) (k2))] 73] ∧ SlAt cTVersion V' a2 k2 x1.Vers ∧ F_mvstore_seen_L1 x1 x3 J5 n8 x7 = some r) ⟨(1000000 : Nat), [(1, .v (.int .i64 (x3))), (2, .ptr 0 0), (5, .v (.int .i64 ((0 : Int))))], ⟨rfl, rfl, rfl, trivial⟩, (0 : Int), rfl, rfl, h2, hF⟩ ?_
    rintro n8 L' V9 M' ⟨x7, rfl, rfl, h10, hF⟩
    rcases n8 with _ | n8
    · exact absurd hF (by simp [F_mvstore_seen_L1])
    rw [F_mvstore_seen_L1] at hF
    refine Exec.run tyOk 400 rfl ?_
    obtain ⟨q11, hF⟩ := req_some hF
    obtain ⟨c12, hr12, hd12⟩ := SlAt.gget (((decide (x7 < (((x1.Vers).length : Nat) : Int)))) == true) h10 q11
    obtain rfl := hr12
    refine Exec.ia tyOk rfl rfl (fun gg0 => ⟨(q11 (gd1_of gg0)).1, (q11 (gd1_of gg0)).2, (hd12 (gd1_of gg0)).some⟩) ?_
    refine Exec.run tyOk 400 rfl ?_
    refine Exec.ld tyOk (x := .int .i64 ((cond (((decide (x7 < (((x1.Vers).length : Nat) : Int)))) == true) (atI x1.Vers x7) default).At)) rfl rfl (fun gg0 => (RdAt.part (hd12 (gd1_of gg0)) 0 1 rfl)) rfl rfl ?_
    refine Exec.run tyOk 400 rfl ?_
    rcases cond_some hF with ⟨hb, hF⟩ | ⟨hb, hF⟩
    · skip
      refine Exec.ifT rfl hb ?_
      refine Exec.run tyOk 400 rfl ?_
      exact Exec.round [(1, .v (.int .i64 (x3))), (2, .ptr 0 0), (5, .v (.int .i64 ((IntKind.i64.wrap (x7 + (1 : Int))))))] ⟨rfl, rfl, rfl, trivial⟩ ⟨n8, Nat.lt_succ_self _, (IntKind.i64.wrap (x7 + (1 : Int))), rfl, rfl, h10, hF⟩
    · skip
      refine Exec.ifF rfl hb ?_
      refine Exec.run tyOk 400 rfl ?_
      refine Exec.cut 0 [(5, .v (.int .i64 (x7)))] (M' := []) rfl ⟨rfl, trivial⟩ rfl rfl rfl ?_
      exact Exec.round [(5, .v (.int .i64 (x7)))] ⟨rfl, trivial⟩ ⟨x7, rfl, rfl, hF⟩

def F_clockworkref05_Plain_L1 (x1 : Str) (J2 : Option Bool) : Nat → Int → Option Bool
  | 0, _ => none
  | n5 + 1, x4 => (cond (decide (x4 < ((x1).length : Int))) (req (0 ≤ x4 ∧ x4 < ((x1).length : Int)) (req ((((decide ((byteAt x1 (x4).toNat) < (32 : Int)))) == false) = true → 0 ≤ x4 ∧ x4 < ((x1).length : Int)) (cond ((decide ((byteAt x1 (x4).toNat) < (32 : Int))) || (decide ((126 : Int) < (byteAt x1 (x4).toNat)))) (some false) (F_clockworkref05_Plain_L1 x1 J2 n5 ((IntKind.i64.wrap (x4 + (1 : Int)))))))) J2)

def F_clockworkref05_Plain (x1 : Str) : Option Bool :=
  (cond (decide ((64 : Int) < ((x1).length : Int))) (some false) (jn ((some true)) (fun J2 => (F_clockworkref05_Plain_L1 x1 J2 ((((x1).length : Int)).toNat + 1) ((0 : Int))))))

set_option maxRecDepth 100000 in
theorem W_clockworkref05_Plain {V : View} (x1 : Str)   {r : Bool} (hF : F_clockworkref05_Plain x1 = some r) :
    Spec Tryz.prog 115 [.string ⟨⟨x1⟩⟩] V (fun _ v => v = .bool (r)) := by
  unfold F_clockworkref05_Plain at hF
  refine Spec.enter (T := tyT) Tryz.func115 rfl (by kernel_rfl) rfl rfl rfl ?_
  refine Exec.run tyOk 400 rfl ?_
  rcases cond_some hF with ⟨hb, hF⟩ | ⟨hb, hF⟩
  · skip
    refine Exec.ifT rfl hb ?_
    refine Exec.run tyOk 400 rfl ?_
    obtain rfl := some_inj hF
    exact Exec.ret tyOk rfl rfl rfl
  · skip
    refine Exec.ifF rfl hb ?_
    refine Exec.run tyOk 6 rfl ?_
    obtain ⟨J2, hJ2, hF⟩ := jn_some hF
    refine Exec.seam (fun L' V' M' => L' = [] ∧ M' = [] ∧ J2 = some r) rfl ?_ ?_
    · rintro L' V3 M' ⟨rfl, rfl, hF⟩
      subst hJ2
      refine Exec.run tyOk 400 rfl ?_
      obtain rfl := some_inj hF
      exact Exec.ret tyOk rfl rfl rfl
    · skip
      refine Exec.run tyOk 400 rfl ?_
      refine Exec.loop (fun n5 L' V' M' => ∃ (x4 : Int), L' = [(0, .v (.string ⟨⟨x1⟩⟩)), (3, .v (.int .i64 (x4)))] ∧ M' = [] ∧ F_clockworkref05_Plain_L1 x1 J2 n5 x4 = some r) ⟨((((x1).length : Int)).toNat + 1), [(0, .v (.string ⟨⟨x1⟩⟩)), (3, .v (.int .i64 ((0 : Int))))], ⟨rfl, rfl, trivial⟩, (0 : Int), rfl, rfl, hF⟩ ?_
      rintro n5 L' V6 M' ⟨x4, rfl, rfl, hF⟩
      rcases n5 with _ | n5
      · exact absurd hF (by simp [F_clockworkref05_Plain_L1])
      rw [F_clockworkref05_Plain_L1] at hF
      refine Exec.run tyOk 400 rfl ?_
      rcases cond_some hF with ⟨hb, hF⟩ | ⟨hb, hF⟩
      · skip
        refine Exec.ifT rfl hb ?_
        refine Exec.run tyOk 400 rfl ?_
        obtain ⟨q7, hF⟩ := req_some hF
        refine Exec.idx tyOk rfl rfl q7 ?_
        refine Exec.run tyOk 400 rfl ?_
        obtain ⟨q8, hF⟩ := req_some hF
        refine Exec.idx tyOk rfl rfl (fun gg0 => q8 (gd1_of gg0)) ?_
        refine Exec.run tyOk 400 rfl ?_
        rcases cond_some hF with ⟨hb, hF⟩ | ⟨hb, hF⟩
        · skip
          refine Exec.ifT rfl hb ?_
          refine Exec.run tyOk 400 rfl ?_
          obtain rfl := some_inj hF
          exact Exec.ret tyOk rfl rfl rfl
        · skip
          refine Exec.ifF rfl hb ?_
          refine Exec.run tyOk 400 rfl ?_
          exact Exec.round [(0, .v (.string ⟨⟨x1⟩⟩)), (3, .v (.int .i64 ((IntKind.i64.wrap (x4 + (1 : Int))))))] ⟨rfl, rfl, trivial⟩ ⟨n5, Nat.lt_succ_self _, (IntKind.i64.wrap (x4 + (1 : Int))), rfl, rfl, hF⟩
      · skip
        refine Exec.ifF rfl hb ?_
        refine Exec.run tyOk 400 rfl ?_
        exact Exec.round [] trivial ⟨rfl, rfl, hF⟩

def F_checksum_little_L1 (x2 : Int) (x1 : Int) (J8 : (List Int) → Option Str) : Nat → (List Int) → Int → Option Str
  | 0, _, _ => none
  | n14 + 1, x12, x13 => (cond (decide (x13 < x2)) (req (0 ≤ (IntKind.i64.wrap ((8 : Int) * x13))) (req (0 ≤ x13 ∧ x13 < ((x12).length : Int)) (F_checksum_little_L1 x2 x1 J8 n14 ((x12.set (x13).toNat ((IntKind.u8.wrap (shrI .u64 x1 (IntKind.i64.wrap ((8 : Int) * x13))))))) ((IntKind.i64.wrap (x13 + (1 : Int))))))) (J8 x12))

def F_checksum_little (x1 : Int) (x2 : Int) : Option Str :=
  (req (0 ≤ x2 ∧ x2 ≤ x2) (req (1 * (x2).toNat ≤ 281474976710656) (jn (fun (x7 : List Int) => (some (bytesS x7))) (fun J8 => (F_checksum_little_L1 x2 x1 J8 ((x2).toNat + 1) ((List.replicate (x2).toNat (default : Int))) ((0 : Int)))))))

set_option maxRecDepth 100000 in
theorem W_checksum_little {V : View} (x1 : Int) (x2 : Int)   {r : Str} (hF : F_checksum_little x1 x2 = some r) :
    Spec Tryz.prog 116 [.int .u64 (x1), .int .i64 (x2)] V (fun _ v => v = .string ⟨⟨r⟩⟩) := by
  unfold F_checksum_little at hF
  refine Spec.enter (T := tyT) Tryz.func116 rfl (by kernel_rfl) rfl rfl rfl ?_
  refine Exec.run tyOk 400 rfl ?_
  obtain ⟨q3, hF⟩ := req_some hF
  obtain ⟨q4, hF⟩ := req_some hF
  refine Exec.mkr tyOk rfl rfl rfl rfl (nm := ((List.replicate (x2).toNat (default : Int))).length) (by simp) q3 q4 (fun _ => rfl) (fun a5 => ?_)
  have h5 : RowRep (cInt .u8) V (List.replicate (x2).toNat (default : Int)) ((List.replicate ((List.replicate (x2).toNat (default : Int))).length [.int .u8 (0)]).flatten) := by rw [List.length_replicate]; exact RowRep.reps (c := (cInt .u8)) rfl _
  refine Exec.run tyOk 8 rfl ?_
  obtain ⟨J8, hJ8, hF⟩ := jn_some hF
  refine Exec.seam (fun L' V' M' => ∃ (x7 : List Int) (a6 : Option Addr) (k6 : Nat) (cs6 : List Value), L' = [(5, .v (.slice a6 ((x7).length) (k6)))] ∧ M' = [.row (.slice a6 ((x7).length) (k6)) cs6 5 1] ∧ RowRep (cInt .u8) V' x7 cs6 ∧ J8 x7 = some r) rfl ?_ ?_
  · rintro L' V9 M' ⟨x7, a6, k6, cs6, rfl, rfl, h6, hF⟩
    subst hJ8
    refine Exec.run tyOk 400 rfl ?_
    refine Exec.frz 0 rfl rfl rfl (fun V10 hv10 hd10 hn10 => ?_)
    have hz10 := RowRep.slat h6 hv10 hd10 hn10
    refine Exec.b2sV tyOk rfl rfl rfl rfl rfl rfl rfl hz10 (by simp) ?_
    refine Exec.run tyOk 400 rfl ?_
    obtain rfl := some_inj hF
    exact Exec.ret tyOk rfl rfl rfl
  · skip
    refine Exec.run tyOk 400 rfl ?_
    refine Exec.loop (fun n14 L' V' M' => ∃ (x12 : List Int) (a11 : Option Addr) (k11 : Nat) (cs11 : List Value) (x13 : Int), L' = [(0, .v (.int .u64 (x1))), (5, .v (.slice a11 ((x12).length) (k11))), (9, .v (.int .i64 (x2))), (10, .v (.int .i64 (x13)))] ∧ M' = [.row (.slice a11 ((x12).length) (k11)) cs11 5 1] ∧ RowRep (cInt .u8) V' x12 cs11 ∧ F_checksum_little_L1 x2 x1 J8 n14 x12 x13 = some r) ⟨((x2).toNat + 1), [(0, .v (.int .u64 (x1))), (5, .v (.slice ((some a5)) (((List.replicate (x2).toNat (default : Int))).length) ((x2).toNat))), (9, .v (.int .i64 (x2))), (10, .v (.int .i64 ((0 : Int))))], ⟨rfl, rfl, rfl, rfl, trivial⟩, (List.replicate (x2).toNat (default : Int)), (some a5), (x2).toNat, ((List.replicate ((List.replicate (x2).toNat (default : Int))).length [.int .u8 (0)]).flatten), (0 : Int), rfl, rfl, h5, hF⟩ ?_
    rintro n14 L' V15 M' ⟨x12, a11, k11, cs11, x13, rfl, rfl, h11, hF⟩
    rcases n14 with _ | n14
    · exact absurd hF (by simp [F_checksum_little_L1])
    rw [F_checksum_little_L1] at hF
    refine Exec.run tyOk 400 rfl ?_
    rcases cond_some hF with ⟨hb, hF⟩ | ⟨hb, hF⟩
    · skip
      refine Exec.ifT rfl hb ?_
      refine Exec.run tyOk 400 rfl ?_
      obtain ⟨q16, hF⟩ := req_some hF
      refine Exec.ari rfl rfl q16 ?_
      refine Exec.run tyOk 400 rfl ?_
      obtain ⟨q17, hF⟩ := req_some hF
      refine Exec.rowI 0 rfl (fun ra18 rb18 rc18 => ?_)
      obtain ⟨c19, hr19, hd19⟩ := RowRep.get h11 q17
      obtain rfl := hr19
      have rd18 : 0 ≤ x13 ∧ x13 < (((x12).length : Nat) : Int) := q17
      have rs18 := rb18 (by omega)
      refine Exec.ia tyOk rfl rfl ⟨rd18.1, rd18.2, rs18⟩ ?_
      refine Exec.run tyOk 400 rfl ?_
      have rl20 := RowRep.len h11
      have h20 : RowRep (cInt .u8) V15 (x12.set (x13).toNat ((IntKind.u8.wrap (shrI .u64 x1 (IntKind.i64.wrap ((8 : Int) * x13)))))) (cs11.take ((x13).toNat * 1) ++ [.int .u8 ((IntKind.u8.wrap (shrI .u64 x1 (IntKind.i64.wrap ((8 : Int) * x13)))))] ++ cs11.drop (((x13).toNat * 1) + 1)) := RowRep.set h11 q17 rfl
      refine Exec.stR tyOk 0 rfl rfl rfl rfl rfl rs18 (stB q17 rl20) rfl rfl rfl ?_
      refine Exec.run tyOk 400 rfl ?_
      exact Exec.round [(0, .v (.int .u64 (x1))), (5, .v (.slice a11 (((x12.set (x13).toNat ((IntKind.u8.wrap (shrI .u64 x1 (IntKind.i64.wrap ((8 : Int) * x13))))))).length) (k11))), (9, .v (.int .i64 (x2))), (10, .v (.int .i64 ((IntKind.i64.wrap (x13 + (1 : Int))))))] ⟨rfl, look_eq rfl (by simp), rfl, rfl, trivial⟩ ⟨n14, Nat.lt_succ_self _, (x12.set (x13).toNat ((IntKind.u8.wrap (shrI .u64 x1 (IntKind.i64.wrap ((8 : Int) * x13)))))), a11, k11, (cs11.take ((x13).toNat * 1) ++ [.int .u8 ((IntKind.u8.wrap (shrI .u64 x1 (IntKind.i64.wrap ((8 : Int) * x13)))))] ++ cs11.drop (((x13).toNat * 1) + 1)), (IntKind.i64.wrap (x13 + (1 : Int))), rfl, (by simp), h20, hF⟩
    · skip
      refine Exec.ifF rfl hb ?_
      refine Exec.run tyOk 400 rfl ?_
      exact Exec.round [(5, .v (.slice a11 ((x12).length) (k11)))] ⟨rfl, trivial⟩ ⟨x12, a11, k11, cs11, rfl, rfl, h11, hF⟩

def F_clockworkref03_little_L1 (x2 : Int) (J4 : Str → Option Str) : Nat → Int → Str → Int → Option Str
  | 0, _, _, _ => none
  | n9 + 1, x6, x7, x8 => (cond (decide (x8 < x2)) (req ((256 : Int) ≠ 0) (req ((x7).length + ((bytesS (([(IntKind.u8.wrap (remI x6 (256 : Int)))] : List Int)))).length ≤ 9223372036854775807) (req ((256 : Int) ≠ 0) (F_clockworkref03_little_L1 x2 J4 n9 ((quoI .u64 x6 (256 : Int))) ((x7 ++ (bytesS (([(IntKind.u8.wrap (remI x6 (256 : Int)))] : List Int))))) ((IntKind.i64.wrap (x8 + (1 : Int)))))))) (J4 x7))

def F_clockworkref03_little (x1 : Int) (x2 : Int) : Option Str :=
  (jn (fun (x3 : Str) => (some x3)) (fun J4 => (F_clockworkref03_little_L1 x2 J4 ((x2).toNat + 1) x1 (([] : Str)) ((0 : Int)))))

set_option maxRecDepth 100000 in
theorem W_clockworkref03_little {V : View} (x1 : Int) (x2 : Int)   {r : Str} (hF : F_clockworkref03_little x1 x2 = some r) :
    Spec Tryz.prog 120 [.int .u64 (x1), .int .i64 (x2)] V (fun _ v => v = .string ⟨⟨r⟩⟩) := by
  unfold F_clockworkref03_little at hF
  refine Spec.enter (T := tyT) Tryz.func120 rfl (by kernel_rfl) rfl rfl rfl ?_
  refine Exec.run tyOk 13 rfl ?_
  obtain ⟨J4, hJ4, hF⟩ := jn_some hF
  refine Exec.seam (fun L' V' M' => ∃ (x3 : Str), L' = [(5, .v (.string ⟨⟨x3⟩⟩))] ∧ M' = [] ∧ J4 x3 = some r) rfl ?_ ?_
  · rintro L' V5 M' ⟨x3, rfl, rfl, hF⟩
    subst hJ4
    refine Exec.run tyOk 400 rfl ?_
    obtain rfl := some_inj hF
    exact Exec.ret tyOk rfl rfl rfl
  · skip
    refine Exec.run tyOk 400 rfl ?_
    refine Exec.loop (fun n9 L' V' M' => ∃ (x6 : Int) (x7 : Str) (x8 : Int), L' = [(0, .v (.int .u64 (x6))), (1, .v (.int .i64 (x2))), (5, .v (.string ⟨⟨x7⟩⟩)), (6, .v (.int .i64 (x8)))] ∧ M' = [] ∧ F_clockworkref03_little_L1 x2 J4 n9 x6 x7 x8 = some r) ⟨((x2).toNat + 1), [(0, .v (.int .u64 (x1))), (1, .v (.int .i64 (x2))), (5, .v (.string ⟨⟨([] : Str)⟩⟩)), (6, .v (.int .i64 ((0 : Int))))], ⟨rfl, rfl, rfl, rfl, trivial⟩, x1, ([] : Str), (0 : Int), rfl, rfl, hF⟩ ?_
    rintro n9 L' V10 M' ⟨x6, x7, x8, rfl, rfl, hF⟩
    rcases n9 with _ | n9
    · exact absurd hF (by simp [F_clockworkref03_little_L1])
    rw [F_clockworkref03_little_L1] at hF
    refine Exec.run tyOk 400 rfl ?_
    rcases cond_some hF with ⟨hb, hF⟩ | ⟨hb, hF⟩
    · skip
      refine Exec.ifT rfl hb ?_
      refine Exec.run tyOk 400 rfl ?_
      obtain ⟨q11, hF⟩ := req_some hF
      refine Exec.ari rfl rfl q11 ?_
      refine Exec.run tyOk 400 rfl ?_
      refine Exec.bsV tyOk rfl rfl rfl rfl rfl (fun V12 a12 hv12 hd12 => ?_)
      have h12 : SlAt (cInt .u8) V12 (some a12) 1 ([(IntKind.u8.wrap (remI x6 (256 : Int)))] : List Int) := RowRep.slat (c := (cInt .u8)) (V := V12) (cs := [.int .u8 ((IntKind.u8.wrap (remI x6 (256 : Int))))]) ⟨_, _, rfl, rfl, rfl⟩ (VLe.refl _) (fun _ => hd12) (by simp)
      refine Exec.run tyOk 400 rfl ?_
      refine Exec.b2sV tyOk rfl rfl rfl rfl rfl rfl rfl h12 (by simp) ?_
      refine Exec.run tyOk 400 rfl ?_
      obtain ⟨q13, hF⟩ := req_some hF
      refine Exec.cat rfl rfl q13 ?_
      refine Exec.run tyOk 400 rfl ?_
      obtain ⟨q14, hF⟩ := req_some hF
      refine Exec.ari rfl rfl q14 ?_
      refine Exec.run tyOk 400 rfl ?_
      refine Exec.cut 0 [(0, .v (.int .u64 ((quoI .u64 x6 (256 : Int))))), (1, .v (.int .i64 (x2))), (5, .v (.string ⟨⟨(x7 ++ (bytesS (([(IntKind.u8.wrap (remI x6 (256 : Int)))] : List Int))))⟩⟩)), (6, .v (.int .i64 ((IntKind.i64.wrap (x8 + (1 : Int))))))] (M' := []) rfl ⟨rfl, rfl, rfl, rfl, trivial⟩ rfl rfl rfl ?_
      exact Exec.round [(0, .v (.int .u64 ((quoI .u64 x6 (256 : Int))))), (1, .v (.int .i64 (x2))), (5, .v (.string ⟨⟨(x7 ++ (bytesS (([(IntKind.u8.wrap (remI x6 (256 : Int)))] : List Int))))⟩⟩)), (6, .v (.int .i64 ((IntKind.i64.wrap (x8 + (1 : Int))))))] ⟨rfl, rfl, rfl, rfl, trivial⟩ ⟨n9, Nat.lt_succ_self _, (quoI .u64 x6 (256 : Int)), (x7 ++ (bytesS (([(IntKind.u8.wrap (remI x6 (256 : Int)))] : List Int)))), (IntKind.i64.wrap (x8 + (1 : Int))), rfl, rfl, hF⟩
    · skip
      refine Exec.ifF rfl hb ?_
      refine Exec.run tyOk 400 rfl ?_
      exact Exec.round [(5, .v (.string ⟨⟨x7⟩⟩))] ⟨rfl, trivial⟩ ⟨x7, rfl, rfl, hF⟩

def F_clockworkref02_Uint_L1 (J4 : Int → Str → Option Str) : Nat → Int → Str → Option Str
  | 0, _, _ => none
  | n10 + 1, x8, x9 => (cond (decide ((128 : Int) ≤ x8)) (req ((128 : Int) ≠ 0) (req ((x9).length + ((bytesS (([(IntKind.u8.wrap ((IntKind.u8.wrap (remI x8 (128 : Int))) + (128 : Int)))] : List Int)))).length ≤ 9223372036854775807) (req ((128 : Int) ≠ 0) (F_clockworkref02_Uint_L1 J4 n10 ((quoI .u64 x8 (128 : Int))) ((x9 ++ (bytesS (([(IntKind.u8.wrap ((IntKind.u8.wrap (remI x8 (128 : Int))) + (128 : Int)))] : List Int))))))))) (J4 x8 x9))

def F_clockworkref02_Uint (x1 : Int) : Option Str :=
  (jn (fun (x2 : Int) (x3 : Str) => (req ((x3).length + ((bytesS (([(IntKind.u8.wrap x2)] : List Int)))).length ≤ 9223372036854775807) (some (x3 ++ (bytesS (([(IntKind.u8.wrap x2)] : List Int))))))) (fun J4 => (F_clockworkref02_Uint_L1 J4 ((x1).toNat + 2) x1 (([] : Str)))))

set_option maxRecDepth 100000 in
theorem W_clockworkref02_Uint {V : View} (x1 : Int)   {r : Str} (hF : F_clockworkref02_Uint x1 = some r) :
    Spec Tryz.prog 121 [.int .u64 (x1)] V (fun _ v => v = .string ⟨⟨r⟩⟩) := by
  unfold F_clockworkref02_Uint at hF
  refine Spec.enter (T := tyT) Tryz.func121 rfl (by kernel_rfl) rfl rfl rfl ?_
  refine Exec.run tyOk 9 rfl ?_
  obtain ⟨J4, hJ4, hF⟩ := jn_some hF
  refine Exec.seam (fun L' V' M' => ∃ (x2 : Int) (x3 : Str), L' = [(0, .v (.int .u64 (x2))), (3, .v (.string ⟨⟨x3⟩⟩))] ∧ M' = [] ∧ J4 x2 x3 = some r) rfl ?_ ?_
  · rintro L' V5 M' ⟨x2, x3, rfl, rfl, hF⟩
    subst hJ4
    refine Exec.run tyOk 400 rfl ?_
    refine Exec.bsV tyOk rfl rfl rfl rfl rfl (fun V6 a6 hv6 hd6 => ?_)
    have h6 : SlAt (cInt .u8) V6 (some a6) 1 ([(IntKind.u8.wrap x2)] : List Int) := RowRep.slat (c := (cInt .u8)) (V := V6) (cs := [.int .u8 ((IntKind.u8.wrap x2))]) ⟨_, _, rfl, rfl, rfl⟩ (VLe.refl _) (fun _ => hd6) (by simp)
    refine Exec.run tyOk 400 rfl ?_
    refine Exec.b2sV tyOk rfl rfl rfl rfl rfl rfl rfl h6 (by simp) ?_
    refine Exec.run tyOk 400 rfl ?_
    obtain ⟨q7, hF⟩ := req_some hF
    refine Exec.cat rfl rfl q7 ?_
    refine Exec.run tyOk 400 rfl ?_
    obtain rfl := some_inj hF
    exact Exec.ret tyOk rfl rfl rfl
  · skip
    refine Exec.run tyOk 400 rfl ?_
    refine Exec.loop (fun n10 L' V' M' => ∃ (x8 : Int) (x9 : Str), L' = [(0, .v (.int .u64 (x8))), (3, .v (.string ⟨⟨x9⟩⟩))] ∧ M' = [] ∧ F_clockworkref02_Uint_L1 J4 n10 x8 x9 = some r) ⟨((x1).toNat + 2), [(0, .v (.int .u64 (x1))), (3, .v (.string ⟨⟨([] : Str)⟩⟩))], ⟨rfl, rfl, trivial⟩, x1, ([] : Str), rfl, rfl, hF⟩ ?_
    rintro n10 L' V11 M' ⟨x8, x9, rfl, rfl, hF⟩
    rcases n10 with _ | n10
    · exact absurd hF (by simp [F_clockworkref02_Uint_L1])
    rw [F_clockworkref02_Uint_L1] at hF
    refine Exec.run tyOk 400 rfl ?_
    rcases cond_some hF with ⟨hb, hF⟩ | ⟨hb, hF⟩
    · skip
      refine Exec.ifT rfl hb ?_
      refine Exec.run tyOk 400 rfl ?_
      obtain ⟨q12, hF⟩ := req_some hF
      refine Exec.ari rfl rfl q12 ?_
      refine Exec.run tyOk 400 rfl ?_
      refine Exec.bsV tyOk rfl rfl rfl rfl rfl (fun V13 a13 hv13 hd13 => ?_)
      have h13 : SlAt (cInt .u8) V13 (some a13) 1 ([(IntKind.u8.wrap ((IntKind.u8.wrap (remI x8 (128 : Int))) + (128 : Int)))] : List Int) := RowRep.slat (c := (cInt .u8)) (V := V13) (cs := [.int .u8 ((IntKind.u8.wrap ((IntKind.u8.wrap (remI x8 (128 : Int))) + (128 : Int))))]) ⟨_, _, rfl, rfl, rfl⟩ (VLe.refl _) (fun _ => hd13) (by simp)
      refine Exec.run tyOk 400 rfl ?_
      refine Exec.b2sV tyOk rfl rfl rfl rfl rfl rfl rfl h13 (by simp) ?_
      refine Exec.run tyOk 400 rfl ?_
      obtain ⟨q14, hF⟩ := req_some hF
      refine Exec.cat rfl rfl q14 ?_
      refine Exec.run tyOk 400 rfl ?_
      obtain ⟨q15, hF⟩ := req_some hF
      refine Exec.ari rfl rfl q15 ?_
      refine Exec.run tyOk 400 rfl ?_
      refine Exec.cut 0 [(0, .v (.int .u64 ((quoI .u64 x8 (128 : Int))))), (3, .v (.string ⟨⟨(x9 ++ (bytesS (([(IntKind.u8.wrap ((IntKind.u8.wrap (remI x8 (128 : Int))) + (128 : Int)))] : List Int))))⟩⟩))] (M' := []) rfl ⟨rfl, rfl, trivial⟩ rfl rfl rfl ?_
      exact Exec.round [(0, .v (.int .u64 ((quoI .u64 x8 (128 : Int))))), (3, .v (.string ⟨⟨(x9 ++ (bytesS (([(IntKind.u8.wrap ((IntKind.u8.wrap (remI x8 (128 : Int))) + (128 : Int)))] : List Int))))⟩⟩))] ⟨rfl, rfl, trivial⟩ ⟨n10, Nat.lt_succ_self _, (quoI .u64 x8 (128 : Int)), (x9 ++ (bytesS (([(IntKind.u8.wrap ((IntKind.u8.wrap (remI x8 (128 : Int))) + (128 : Int)))] : List Int)))), rfl, rfl, hF⟩
    · skip
      refine Exec.ifF rfl hb ?_
      refine Exec.run tyOk 400 rfl ?_
      exact Exec.round [(0, .v (.int .u64 (x8))), (3, .v (.string ⟨⟨x9⟩⟩))] ⟨rfl, rfl, trivial⟩ ⟨x8, x9, rfl, rfl, hF⟩

def F_clockworkref02_Text (x1 : Str) : Option Str :=
  (bnd (F_clockworkref02_Uint ((IntKind.u64.wrap ((x1).length : Int)))) fun x2 => (req ((x2).length + (x1).length ≤ 9223372036854775807) (some (x2 ++ x1))))

set_option maxRecDepth 100000 in
theorem W_clockworkref02_Text {V : View} (x1 : Str)   {r : Str} (hF : F_clockworkref02_Text x1 = some r) :
    Spec Tryz.prog 123 [.string ⟨⟨x1⟩⟩] V (fun _ v => v = .string ⟨⟨r⟩⟩) := by
  unfold F_clockworkref02_Text at hF
  refine Spec.enter (T := tyT) Tryz.func123 rfl (by kernel_rfl) rfl rfl rfl ?_
  refine Exec.run tyOk 400 rfl ?_
  obtain ⟨x2, hx2, hF⟩ := bnd_some hF
  refine Exec.callS (.string ⟨⟨x2⟩⟩) rfl rfl (W_clockworkref02_Uint ((IntKind.u64.wrap ((x1).length : Int)))  hx2) ?_
  refine Exec.run tyOk 400 rfl ?_
  obtain ⟨q3, hF⟩ := req_some hF
  refine Exec.cat rfl rfl q3 ?_
  refine Exec.run tyOk 400 rfl ?_
  obtain rfl := some_inj hF
  exact Exec.ret tyOk rfl rfl rfl

def F_slices_IndexFunc_api_Pair_api_Pair_L1 (x1 : List TPair) (g4 : TPair → Option Bool) (J5 : Option Int) : Nat → Int → Option Int
  | 0, _ => none
  | n8 + 1, x7 => (cond (decide (x7 < (((x1).length : Nat) : Int))) (req (0 ≤ x7 ∧ x7 < ((x1).length : Int)) (bnd (g4 ((atI x1 x7))) fun x14 => (cond x14 (some x7) (F_slices_IndexFunc_api_Pair_api_Pair_L1 x1 g4 J5 n8 ((IntKind.i64.wrap (x7 + (1 : Int)))))))) J5)

def F_slices_IndexFunc_api_Pair_api_Pair (x1 : List TPair) (g4 : TPair → Option Bool) : Option Int :=
  (jn ((some (-1 : Int))) (fun J5 => (F_slices_IndexFunc_api_Pair_api_Pair_L1 x1 g4 J5 (((((x1).length : Nat) : Int)).toNat + 1) ((0 : Int)))))

set_option maxRecDepth 100000 in
theorem W_slices_IndexFunc_api_Pair_api_Pair {V : View} (x1 : List TPair) (g4 : TPair → Option Bool) {f4 : Nat} {ca4 : List Value} {a2 : Option Addr} {k2 : Nat} (h2 : SlAt cTPair V a2 k2 x1) (hg4 : FnSpec1 Tryz.prog f4 ca4 V (fun (y : TPair) => .agg ⟨[.string ⟨⟨y.Key⟩⟩, .int .i64 (y.Val.Kind), .int .i64 (y.Val.N), .string ⟨⟨y.Val.S⟩⟩]⟩) (fun (r : Bool) => .bool (r)) g4) {r : Int} (hF : F_slices_IndexFunc_api_Pair_api_Pair x1 g4 = some r) :
    Spec Tryz.prog 124 [.slice a2 ((x1).length) (k2), .func (.func f4) #[] ⟨ca4⟩] V (fun _ v => v = .int .i64 (r)) := by
  unfold F_slices_IndexFunc_api_Pair_api_Pair at hF
  refine Spec.enter (T := tyT) Tryz.func124 rfl (by kernel_rfl) rfl rfl rfl ?_
  refine Exec.run tyOk 11 rfl ?_
  obtain ⟨J5, hJ5, hF⟩ := jn_some hF
  refine Exec.seam (fun L' V' M' => L' = [] ∧ M' = [] ∧ J5 = some r) rfl ?_ ?_
  · rintro L' V6 M' ⟨rfl, rfl, hF⟩
    subst hJ5
    refine Exec.run tyOk 400 rfl ?_
    obtain rfl := some_inj hF
    exact Exec.ret tyOk rfl rfl rfl
  · skip
    refine Exec.run tyOk 400 rfl ?_
    refine Exec.loop (fun n8 L' V' M' => ∃ (x7 : Int), L' = [(0, .v (.slice a2 ((x1).length) (k2))), (1, .v (.func (.func f4) #[] ⟨ca4⟩)), (7, .v (.int .i64 ((((x1).length : Nat) : Int)))), (8, .v (.int .i64 (x7)))] ∧ M' = [] ∧ SlAt cTPair V' a2 k2 x1 ∧ FnSpec1 Tryz.prog f4 ca4 V' (fun (y : TPair) => .agg ⟨[.string ⟨⟨y.Key⟩⟩, .int .i64 (y.Val.Kind), .int .i64 (y.Val.N), .string ⟨⟨y.Val.S⟩⟩]⟩) (fun (r : Bool) => .bool (r)) g4 ∧ F_slices_IndexFunc_api_Pair_api_Pair_L1 x1 g4 J5 n8 x7 = some r) ⟨(((((x1).length : Nat) : Int)).toNat + 1), [(0, .v (.slice a2 ((x1).length) (k2))), (1, .v (.func (.func f4) #[] ⟨ca4⟩)), (7, .v (.int .i64 ((((x1).length : Nat) : Int)))), (8, .v (.int .i64 ((0 : Int))))], ⟨rfl, rfl, rfl, rfl, trivial⟩, (0 : Int), rfl, rfl, h2, hg4, hF⟩ ?_
    rintro n8 L' V9 M' ⟨x7, rfl, rfl, h10, h11, hF⟩
    rcases n8 with _ | n8
    · exact absurd hF (by simp [F_slices_IndexFunc_api_Pair_api_Pair_L1])
    rw [F_slices_IndexFunc_api_Pair_api_Pair_L1] at hF
    refine Exec.run tyOk 400 rfl ?_
    rcases cond_some hF with ⟨hb, hF⟩ | ⟨hb, hF⟩
    · skip
      refine Exec.ifT rfl hb ?_
      refine Exec.run tyOk 400 rfl ?_
      obtain ⟨q12, hF⟩ := req_some hF
      obtain ⟨c13, hr13, hd13⟩ := SlAt.get h10 q12
      obtain rfl := hr13
      refine Exec.ia tyOk rfl rfl ⟨q12.1, q12.2, hd13.some⟩ ?_
      refine Exec.run tyOk 400 rfl ?_
      refine Exec.ld tyOk (x := .agg ⟨[.string ⟨⟨(atI x1 x7).Key⟩⟩, .int .i64 ((atI x1 x7).Val.Kind), .int .i64 ((atI x1 x7).Val.N), .string ⟨⟨(atI x1 x7).Val.S⟩⟩]⟩) rfl rfl hd13 rfl rfl ?_
      refine Exec.run tyOk 400 rfl ?_
      obtain ⟨x14, hx14, hF⟩ := bnd_some hF
      refine Exec.callS (.bool (x14)) rfl rfl (h11.at hx14) ?_
      refine Exec.run tyOk 400 rfl ?_
      rcases cond_some hF with ⟨hb, hF⟩ | ⟨hb, hF⟩
      · skip
        refine Exec.ifT rfl hb ?_
        refine Exec.run tyOk 400 rfl ?_
        obtain rfl := some_inj hF
        exact Exec.ret tyOk rfl rfl rfl
      · skip
        refine Exec.ifF rfl hb ?_
        refine Exec.run tyOk 400 rfl ?_
        exact Exec.round [(0, .v (.slice a2 ((x1).length) (k2))), (1, .v (.func (.func f4) #[] ⟨ca4⟩)), (7, .v (.int .i64 ((((x1).length : Nat) : Int)))), (8, .v (.int .i64 ((IntKind.i64.wrap (x7 + (1 : Int))))))] ⟨rfl, rfl, rfl, rfl, trivial⟩ ⟨n8, Nat.lt_succ_self _, (IntKind.i64.wrap (x7 + (1 : Int))), rfl, rfl, h10, h11, hF⟩
    · skip
      refine Exec.ifF rfl hb ?_
      refine Exec.run tyOk 400 rfl ?_
      exact Exec.round [] trivial ⟨rfl, rfl, hF⟩

def F_value_plain_L1 (x1 : Str) (J2 : Option Bool) : Nat → Int → Option Bool
  | 0, _ => none
  | n5 + 1, x4 => (cond (decide (x4 < ((x1).length : Int))) (req (0 ≤ x4 ∧ x4 < ((x1).length : Int)) (req ((((decide ((byteAt x1 (x4).toNat) < (32 : Int)))) == false) = true → 0 ≤ x4 ∧ x4 < ((x1).length : Int)) (cond ((decide ((byteAt x1 (x4).toNat) < (32 : Int))) || (decide ((126 : Int) < (byteAt x1 (x4).toNat)))) (some false) (F_value_plain_L1 x1 J2 n5 ((IntKind.i64.wrap (x4 + (1 : Int)))))))) J2)

def F_value_plain (x1 : Str) : Option Bool :=
  (jn ((some (decide (((x1).length : Int) ≤ (64 : Int))))) (fun J2 => (F_value_plain_L1 x1 J2 ((((x1).length : Int)).toNat + 1) ((0 : Int)))))

set_option maxRecDepth 100000 in
theorem W_value_plain {V : View} (x1 : Str)   {r : Bool} (hF : F_value_plain x1 = some r) :
    Spec Tryz.prog 132 [.string ⟨⟨x1⟩⟩] V (fun _ v => v = .bool (r)) := by
  unfold F_value_plain at hF
  refine Spec.enter (T := tyT) Tryz.func132 rfl (by kernel_rfl) rfl rfl rfl ?_
  refine Exec.run tyOk 9 rfl ?_
  obtain ⟨J2, hJ2, hF⟩ := jn_some hF
  refine Exec.seam (fun L' V' M' => L' = [(0, .v (.string ⟨⟨x1⟩⟩))] ∧ M' = [] ∧ J2 = some r) rfl ?_ ?_
  · rintro L' V3 M' ⟨rfl, rfl, hF⟩
    subst hJ2
    refine Exec.run tyOk 400 rfl ?_
    obtain rfl := some_inj hF
    exact Exec.ret tyOk rfl rfl rfl
  · skip
    refine Exec.run tyOk 400 rfl ?_
    refine Exec.loop (fun n5 L' V' M' => ∃ (x4 : Int), L' = [(0, .v (.string ⟨⟨x1⟩⟩)), (3, .v (.int .i64 (x4)))] ∧ M' = [] ∧ F_value_plain_L1 x1 J2 n5 x4 = some r) ⟨((((x1).length : Int)).toNat + 1), [(0, .v (.string ⟨⟨x1⟩⟩)), (3, .v (.int .i64 ((0 : Int))))], ⟨rfl, rfl, trivial⟩, (0 : Int), rfl, rfl, hF⟩ ?_
    rintro n5 L' V6 M' ⟨x4, rfl, rfl, hF⟩
    rcases n5 with _ | n5
    · exact absurd hF (by simp [F_value_plain_L1])
    rw [F_value_plain_L1] at hF
    refine Exec.run tyOk 400 rfl ?_
    rcases cond_some hF with ⟨hb, hF⟩ | ⟨hb, hF⟩
    · skip
      refine Exec.ifT rfl hb ?_
      refine Exec.run tyOk 400 rfl ?_
      obtain ⟨q7, hF⟩ := req_some hF
      refine Exec.idx tyOk rfl rfl q7 ?_
      refine Exec.run tyOk 400 rfl ?_
      obtain ⟨q8, hF⟩ := req_some hF
      refine Exec.idx tyOk rfl rfl (fun gg0 => q8 (gd1_of gg0)) ?_
      refine Exec.run tyOk 400 rfl ?_
      rcases cond_some hF with ⟨hb, hF⟩ | ⟨hb, hF⟩
      · skip
        refine Exec.ifT rfl hb ?_
        refine Exec.run tyOk 400 rfl ?_
        obtain rfl := some_inj hF
        exact Exec.ret tyOk rfl rfl rfl
      · skip
        refine Exec.ifF rfl hb ?_
        refine Exec.run tyOk 400 rfl ?_
        exact Exec.round [(0, .v (.string ⟨⟨x1⟩⟩)), (3, .v (.int .i64 ((IntKind.i64.wrap (x4 + (1 : Int))))))] ⟨rfl, rfl, trivial⟩ ⟨n5, Nat.lt_succ_self _, (IntKind.i64.wrap (x4 + (1 : Int))), rfl, rfl, hF⟩
    · skip
      refine Exec.ifF rfl hb ?_
      refine Exec.run tyOk 400 rfl ?_
      exact Exec.round [(0, .v (.string ⟨⟨x1⟩⟩))] ⟨rfl, trivial⟩ ⟨rfl, rfl, hF⟩

def F_wire_appended (x1 : List Int) (x3 : Int) : Option (List Int) := (req (((x1 ++ [x3])).length * 1 ≤ 140737488355328) (some (x1 ++ [x3])))

set_option maxRecDepth 100000 in
theorem W_wire_appended {V : View} (x1 : List Int) (x3 : Int) {a2 : Option Addr} {k2 : Nat} (h2 : SlAt (cInt .u8) V a2 k2 x1) {r : List Int} (hF : F_wire_appended x1 x3 = some r) :
    Spec Tryz.prog 142 [.slice a2 ((x1).length) (k2), .int .u8 (x3)] V (fun V' v => ∃ (a29 : Option Addr) (k29 : Nat), v = .slice a29 ((r).length) (k29) ∧ SlAt (cInt .u8) V' a29 k29 r) := by
  unfold F_wire_appended at hF
  refine Spec.enter (T := tyT) Tryz.func142 rfl (by kernel_rfl) rfl rfl rfl ?_
  refine Exec.run tyOk 400 rfl ?_
  obtain ⟨q8, hF⟩ := req_some hF
  obtain rfl := some_inj hF
  have hcap := h2.1
  refine Exec.slx3 tyOk rfl rfl rfl rfl rfl rfl rfl ⟨by simp [loN], by simp [loN], Int.le_refl _, by omega⟩ (l' := 0) rfl (n' := x1.length) (by simp) (c' := x1.length) (by simp) ?_
  refine Exec.run tyOk 400 rfl ?_
  refine Exec.bsl tyOk rfl rfl ?_
  refine Exec.run tyOk 400 rfl ?_
  refine Exec.appO tyOk (cd := cInt .u8) 0 (nm := (x1 ++ [x3]).length) rfl rfl rfl rfl rfl rfl rfl (by simp) (fun _ _ _ => rfl) q8 h2 rfl rfl rfl rfl (by omega) (fun cs3 a3 k3 hcs3 => ?_)
  have h13 : RowRep (cInt .u8) V (x1 ++ [x3]) (cs3 ++ [.int .u8 x3]) := RowRep.app hcs3 ⟨_, _, rfl, rfl, rfl⟩
  refine Exec.run tyOk 400 rfl ?_
  refine Exec.frz 1 rfl rfl rfl (fun V19 hv19 hd19 hn19 => ?_)
  have hz19 := RowRep.slat h13 hv19 hd19 hn19
  exact Exec.ret tyOk rfl rfl ⟨_, _, rfl, hz19⟩

end Go.Proofs.YtonijgmopcmldaaGreat
