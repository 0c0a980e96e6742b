/-
  Functions of the program as their counterparts say them (printed by a program).
  Conditions: none.
-/
import Derived.Test.YtcgmfmpfmfjmoaaGreatHd
set_option linter.all false
namespace Go.Proofs.YtcgmfmpfmfjmoaaGreat

def F_state_Valid (x1 : List TPair) : Option Bool :=
  (bnd (F_state_sorted x1) fun x3 => (bnd (gcall ((x3) == true) (F_slices_ContainsFunc_api_Pair_api_Pair x1 (fun y0 => F_state_absent y0 ))) fun x4 => (some (x3 && (!x4)))))

set_option maxRecDepth 100000 in
theorem W_state_Valid {V : View} (x1 : List TPair) {a2 : Option Addr} {k2 : Nat} (h2 : SlAt cTPair V a2 k2 x1) {r : Bool} (hF : F_state_Valid x1 = some r) :
    Spec Tryz.prog 60 [.slice a2 ((x1).length) (k2)] V (fun _ v => v = .bool (r)) := by
  unfold F_state_Valid at hF
  refine Spec.enter (T := tyT) Tryz.func60 rfl (by kernel_rfl) rfl rfl rfl ?_
  refine Exec.run tyOk 400 rfl ?_
  obtain ⟨x3, hx3, hF⟩ := bnd_some hF
  refine Exec.callS (.bool (x3)) rfl rfl (W_state_sorted x1 h2 hx3) ?_
  refine Exec.run tyOk 400 rfl ?_
  obtain ⟨x4, hx4, hF⟩ := bnd_some hF
  refine Exec.callS (.bool (x4)) rfl rfl (fun gg0 => W_slices_ContainsFunc_api_Pair_api_Pair x1 (fun y0 => F_state_absent y0 ) h2 (fun V' hv y0 r hr => W_state_absent y0   hr) (gcall_some hx4 (gd1_of gg0))) ?_
  refine Exec.run tyOk 400 rfl ?_
  obtain rfl := some_inj hF
  exact Exec.ret tyOk rfl rfl rfl

-- uses W_state_merge_api_Pair
def unRel (b0 b2 : Nat) (_V : View) (s : List TPair × Bool) (r0 r1 r2 : RowD) : Prop :=
  ∃ a k cs, r0 = ⟨.slice (some ⟨b0, 0, none⟩) 1 1, [.slice a s.1.length k], 28, 1⟩ ∧ r1 = ⟨.slice a s.1.length k, cs, 70, 4⟩ ∧
    r2 = ⟨.slice (some ⟨b2, 0, none⟩) 1 1, [.bool s.2], 4, 1⟩ ∧ RowRep cTPair _V s.1 cs

def unKeep (s : List TPair × Bool) (y : TPair) : Option (List TPair × Bool) := req ((s.1 ++ [y]).length * 48 ≤ 140737488355328) (some (s.1 ++ [y], s.2))
def unTwice (s : List TPair × Bool) (_ _ : TPair) : Option (List TPair × Bool) := some (s.1, true)

set_option maxRecDepth 100000 in
theorem X_Union1 {V : View} (b0 b2 : Nat) : FnSt1 Tryz.prog 111 [.pointer (some ⟨b0, 0, none⟩)] V mkPair (unRel b0 b2) unKeep := by
  intro V1 hv s r0 r1 r2 y s' ⟨a, k, cs, h0, h1, h2, hrep⟩ hg
  subst h0; subst h1; subst h2
  obtain ⟨l, t⟩ := s
  unfold unKeep at hg
  obtain ⟨q, hg⟩ := req_some hg
  obtain rfl := some_inj hg
  refine SpecR.enter (T := tyT) Tryz.func111 rfl (by kernel_rfl) rfl rfl rfl (M := [.row (.slice (some ⟨b0, 0, none⟩) 1 1) [.slice a l.length k] 28 1, .row (.slice a l.length k) cs 70 4, .row (.slice (some ⟨b2, 0, none⟩) 1 1) [.bool t] 4 1]) rfl ?_
  refine Exec.run tyOk 400 rfl ?_
  refine Exec.ldR tyOk 0 (l := [.slice a l.length k]) rfl rfl rfl ⟨fun j v hv => by simpa using hv, b0, 0, rfl⟩ rfl rfl ?_
  refine Exec.run tyOk 400 rfl ?_
  refine Exec.bsl tyOk rfl rfl ?_
  refine Exec.run tyOk 400 rfl ?_
  refine Exec.app tyOk 1 4 (nm := (l ++ [y]).length) rfl rfl rfl rfl rfl rfl rfl rfl rfl (by simp) (fun _ _ => rfl) rfl q (fun a3 k3 => ?_)
  refine Exec.run tyOk 400 rfl ?_
  refine Exec.stR tyOk 0 rfl rfl rfl rfl rfl ⟨b0, 0, rfl⟩ (Nat.le_refl _) rfl rfl rfl ?_
  refine Exec.run tyOk 400 rfl ?_
  refine Exec.fall tyOk rfl rfl ?_
  dsimp only
  exact ⟨[⟨.slice (some ⟨b0, 0, none⟩) 1 1, [.slice a3 (l ++ [y]).length k3], _, 1⟩, ⟨.slice a3 (l ++ [y]).length k3, _, _, 4⟩, ⟨.slice (some ⟨b2, 0, none⟩) 1 1, [.bool t], _, 1⟩], rfl, rfl, rfl, _, _, _, rfl, a3, k3, _, rfl, rfl, rfl, RowRep.app hrep ⟨_, _, rfl, rfl, rfl⟩⟩

set_option maxRecDepth 100000 in
theorem X_Union2 {V : View} (b0 b2 : Nat) : FnSt2 Tryz.prog 114 [.pointer (some ⟨b2, 0, none⟩)] V mkPair mkPair (unRel b0 b2) unTwice := by
  intro V1 hv s r0 r1 r2 y y2 s' ⟨a, k, cs, h0, h1, h2, hrep⟩ hg
  subst h0; subst h1; subst h2
  obtain ⟨l, t⟩ := s
  unfold unTwice at hg
  obtain rfl := some_inj hg
  refine SpecR.enter (T := tyT) Tryz.func114 rfl (by kernel_rfl) rfl rfl rfl (M := [.row (.slice (some ⟨b0, 0, none⟩) 1 1) [.slice a l.length k] 28 1, .row (.slice a l.length k) cs 70 4, .row (.slice (some ⟨b2, 0, none⟩) 1 1) [.bool t] 4 1]) rfl ?_
  refine Exec.run tyOk 400 rfl ?_
  refine Exec.stR tyOk 2 rfl rfl rfl rfl rfl ⟨b2, 0, rfl⟩ (Nat.le_refl _) rfl rfl rfl ?_
  refine Exec.run tyOk 400 rfl ?_
  refine Exec.fall tyOk rfl rfl ?_
  dsimp only
  exact ⟨[⟨.slice (some ⟨b0, 0, none⟩) 1 1, [.slice a l.length k], _, 1⟩, ⟨.slice a l.length k, cs, _, 4⟩, ⟨.slice (some ⟨b2, 0, none⟩) 1 1, [.bool true], _, 1⟩], rfl, rfl, rfl, _, _, _, rfl, a, k, cs, rfl, rfl, rfl, hrep⟩

def F_state_Union (x1 x3 : List TPair) : Option (List TPair × Int) :=
  bnd (F_state_Valid x1) fun x5 => bnd (gcall ((!x5) == false) (F_state_Valid x3)) fun x6 => cond ((!x5) || (!x6)) (some ([], 1))
    (bnd (mergeF x1 x3 F_state_order unKeep unKeep unTwice ([], false)) fun s => cond s.2 (some ([], 8)) (some (s.1, 0)))

set_option maxRecDepth 100000 in
theorem W_state_Union {V : View} (x1 : List TPair) (x3 : List TPair) {a2 : Option Addr} {k2 : Nat} {a4 : Option Addr} {k4 : Nat} (h2 : SlAt cTPair V a2 k2 x1) (h4 : SlAt cTPair V a4 k4 x3) {r : List TPair × Int} (hF : F_state_Union x1 x3 = some r) :
    Spec Tryz.prog 62 [.slice a2 ((x1).length) (k2), .slice a4 ((x3).length) (k4)] V (fun V' v => ∃ (a22 : Option Addr) (k22 : Nat), v = .tuple ⟨[.slice a22 ((r.1).length) (k22), .int .i64 (r.2)]⟩ ∧ SlAt cTPair V' a22 k22 r.1) := by
  unfold F_state_Union at hF
  refine Spec.enter (T := tyT) Tryz.func62 rfl (by kernel_rfl) rfl rfl rfl ?_
  refine Exec.run tyOk 400 rfl ?_
  obtain ⟨x5, hx5, hF⟩ := bnd_some hF
  refine Exec.callS (.bool (x5)) rfl rfl (W_state_Valid x1 h2 hx5) ?_
  refine Exec.run tyOk 400 rfl ?_
  obtain ⟨x6, hx6, hF⟩ := bnd_some hF
  refine Exec.callS (.bool (x6)) rfl rfl (fun gg0 => W_state_Valid x3 h4 (gcall_some hx6 (gd1_of gg0))) ?_
  refine Exec.run tyOk 400 rfl ?_
  rcases cond_some hF with ⟨hb, hF⟩ | ⟨hb, hF⟩
  · skip
    refine Exec.ifT rfl hb ?_
    refine Exec.run tyOk 400 rfl ?_
    obtain rfl := some_inj hF
    exact Exec.ret tyOk rfl rfl ⟨_, _, rfl, SlAt.nil⟩
  · skip
    refine Exec.ifF rfl hb ?_
    refine Exec.run tyOk 400 rfl ?_
    refine Exec.fixR 0 (n := 1) (sz := 1) rfl rfl rfl rfl rfl (fun _ => rfl) (fun _ => rfl) (fun _ => rfl) (fun b0 => ?_)
    refine Exec.mkf rfl rfl ?_
    refine Exec.run tyOk 400 rfl ?_
    refine Exec.fixR 1 (n := 1) (sz := 1) rfl rfl rfl rfl rfl (fun _ => rfl) (fun _ => rfl) (fun _ => rfl) (fun b2 => ?_)
    refine Exec.mkf rfl rfl ?_
    refine Exec.row0 70 4 rfl ?_
    obtain ⟨s, hs, hF⟩ := bnd_some hF
    refine Exec.callR [0, 2, 1] (rs := [⟨.slice (some ⟨b0, 0, none⟩) 1 1, [.slice none 0 0], 28, 1⟩, ⟨.slice none 0 0, [], 70, 4⟩, ⟨.slice (some ⟨b2, 0, none⟩) 1 1, [.bool false], 4, 1⟩]) rfl rfl rfl rfl rfl rfl
      (X_merge (rel := unRel b0 b2) x1 x3 F_state_order unKeep unKeep unTwice h2 h4 (fun V' hv y0 y1 r hr => W_state_order y0 y1 hr) (X_Union1 b0 b2) (X_Union1 b0 b2) (X_Union2 b0 b2) (s := ([], false)) ⟨none, 0, [], rfl, rfl, rfl, RowRep.nil⟩ hs) ?_
    rintro V7 _ _ hv7 ⟨rfl, q0, q1, q2, rfl, a, k, cs, rfl, rfl, rfl, hrep⟩
    refine ⟨_, rfl, ?_⟩
    refine Exec.run tyOk 400 rfl ?_
    refine Exec.ldR tyOk 1 (l := [.bool s.2]) rfl rfl rfl ⟨fun j v hv => by simpa using hv, b2, 0, rfl⟩ rfl rfl ?_
    refine Exec.run tyOk 400 rfl ?_
    rcases cond_some hF with ⟨hb, hF⟩ | ⟨hb, hF⟩
    · skip
      refine Exec.ifT rfl hb ?_
      refine Exec.run tyOk 400 rfl ?_
      obtain rfl := some_inj hF
      exact Exec.ret tyOk rfl rfl ⟨_, _, rfl, SlAt.nil⟩
    · skip
      refine Exec.ifF rfl hb ?_
      refine Exec.run tyOk 400 rfl ?_
      refine Exec.ldR tyOk 0 (l := [.slice a s.1.length k]) rfl rfl rfl ⟨fun j v hv => by simpa using hv, b0, 0, rfl⟩ rfl rfl ?_
      refine Exec.run tyOk 400 rfl ?_
      refine Exec.frz 2 rfl rfl rfl (fun V13 hv13 hd13 hn13 => ?_)
      have hz13 := RowRep.slat hrep hv13 hd13 hn13
      obtain rfl := some_inj hF
      exact Exec.ret tyOk rfl rfl ⟨_, _, rfl, hz13⟩


def F_state_Decode_L1 (x3 : Int × Int × Int) (x1 : Str) (J8 : (List TPair) → Int → Option (List TPair × Int × Int)) : Nat → (List TPair) → Int → Int → Option (List TPair × Int × Int)
  | 0, _, _, _ => none
  | n16 + 1, x13, x14, x15 => (cond (decide (x15 < x3.1)) (bnd (F_wire_TakeText x1 x14 ((24 : Int))) fun x18 => (cond (x18.2.2 != (0 : Int)) (some (([] : List TPair), (0 : Int), x18.2.2)) (bnd (F_value_Decode x1 x18.2.1) fun x19 => (cond (x19.2.2 != (0 : Int)) (some (([] : List TPair), (0 : Int), x19.2.2)) (req (((x13 ++ [(⟨x18.1, x19.1⟩ : TPair)])).length * 48 ≤ 140737488355328) (F_state_Decode_L1 x3 x1 J8 n16 ((x13 ++ [(⟨x18.1, x19.1⟩ : TPair)])) x19.2.1 ((IntKind.i64.wrap (x15 + (1 : Int)))))))))) (J8 x13 x14))

def F_state_Decode (x1 : Str) (x2 : Int) : Option (List TPair × Int × Int) :=
  (bnd (F_wire_TakeCount x1 x2 ((2147483647 : Int))) fun x3 => (cond (x3.2.2 != (0 : Int)) (some (([] : List TPair), (0 : Int), x3.2.2)) (jn (fun (x6 : List TPair) (x7 : Int) => (bnd (F_state_Valid x6) fun x10 => (cond (!x10) (some (([] : List TPair), (0 : Int), (5 : Int))) (some (x6, x7, (0 : Int)))))) (fun J8 => (F_state_Decode_L1 x3 x1 J8 ((x3.1).toNat + 1) (([] : List TPair)) x3.2.1 ((0 : Int)))))))

set_option maxRecDepth 100000 in
theorem W_state_Decode {V : View} (x1 : Str) (x2 : Int)   {r : List TPair × Int × Int} (hF : F_state_Decode x1 x2 = some r) :
    Spec Tryz.prog 77 [.string ⟨⟨x1⟩⟩, .int .i64 (x2)] V (fun V' v => ∃ (a22 : Option Addr) (k22 : Nat), v = .tuple ⟨[.slice a22 ((r.1).length) (k22), .int .i64 (r.2.1), .int .i64 (r.2.2)]⟩ ∧ SlAt cTPair V' a22 k22 r.1) := by
  unfold F_state_Decode at hF
  refine Spec.enter (T := tyT) Tryz.func77 rfl (by kernel_rfl) rfl rfl rfl ?_
  refine Exec.run tyOk 400 rfl ?_
  obtain ⟨x3, hx3, hF⟩ := bnd_some hF
  refine Exec.callS (.tuple ⟨[.int .i64 (x3.1), .int .i64 (x3.2.1), .int .i64 (x3.2.2)]⟩) rfl rfl (W_wire_TakeCount x1 x2 ((2147483647 : Int))  hx3) ?_
  refine Exec.run tyOk 400 rfl ?_
  rcases cond_some hF with ⟨hb, hF⟩ | ⟨hb, hF⟩
  · skip
    refine Exec.ifT rfl hb ?_
    refine Exec.run tyOk 400 rfl ?_
    obtain rfl := some_inj hF
    exact Exec.ret tyOk rfl rfl ⟨_, _, rfl, SlAt.nil⟩
  · skip
    refine Exec.ifF rfl hb ?_
    refine Exec.run tyOk 11 rfl ?_
    refine Exec.row0 70 4 rfl ?_
    have h4 : RowRep cTPair V ([] : List TPair) [] := RowRep.nil
    obtain ⟨J8, hJ8, hF⟩ := jn_some hF
    refine Exec.seam (fun L' V' M' => ∃ (x6 : List TPair) (a5 : Option Addr) (k5 : Nat) (cs5 : List Value) (x7 : Int), L' = [(1, .v (.int .i64 (x7))), (9, .v (.slice a5 ((x6).length) (k5)))] ∧ M' = [.row (.slice a5 ((x6).length) (k5)) cs5 70 4] ∧ RowRep cTPair V' x6 cs5 ∧ J8 x6 x7 = some r) rfl ?_ ?_
    · rintro L' V9 M' ⟨x6, a5, k5, cs5, x7, rfl, rfl, h5, hF⟩
      subst hJ8
      refine Exec.run tyOk 400 rfl ?_
      obtain ⟨x10, hx10, hF⟩ := bnd_some hF
      refine Exec.callL (.bool (x10)) rfl rfl (fun _ hv hl => W_state_Valid x6 (RowRep.slat h5 hv (hl 0 _ _ _ _ _ _ rfl).1 (hl 0 _ _ _ _ _ _ rfl).2) hx10) ?_
      refine Exec.run tyOk 400 rfl ?_
      rcases cond_some hF with ⟨hb, hF⟩ | ⟨hb, hF⟩
      · skip
        refine Exec.ifT rfl hb ?_
        refine Exec.run tyOk 400 rfl ?_
        obtain rfl := some_inj hF
        exact Exec.ret tyOk rfl rfl ⟨_, _, rfl, SlAt.nil⟩
      · skip
        refine Exec.ifF rfl hb ?_
        refine Exec.run tyOk 400 rfl ?_
        refine Exec.frz 0 rfl rfl rfl (fun V11 hv11 hd11 hn11 => ?_)
        have hz11 := RowRep.slat h5 hv11 hd11 hn11
        obtain rfl := some_inj hF
        exact Exec.ret tyOk rfl rfl ⟨_, _, rfl, hz11⟩
    · skip
      refine Exec.run tyOk 400 rfl ?_
      refine Exec.loop (fun n16 L' V' M' => ∃ (x13 : List TPair) (a12 : Option Addr) (k12 : Nat) (cs12 : List Value) (x14 : Int) (x15 : Int), L' = [(0, .v (.string ⟨⟨x1⟩⟩)), (1, .v (.int .i64 (x14))), (9, .v (.slice a12 ((x13).length) (k12))), (25, .v (.int .i64 (x3.1))), (26, .v (.int .i64 (x15)))] ∧ M' = [.row (.slice a12 ((x13).length) (k12)) cs12 70 4] ∧ RowRep cTPair V' x13 cs12 ∧ F_state_Decode_L1 x3 x1 J8 n16 x13 x14 x15 = some r) ⟨((x3.1).toNat + 1), [(0, .v (.string ⟨⟨x1⟩⟩)), (1, .v (.int .i64 (x3.2.1))), (9, .v (.slice none ((([] : List TPair)).length) (0))), (25, .v (.int .i64 (x3.1))), (26, .v (.int .i64 ((0 : Int))))], ⟨rfl, rfl, rfl, rfl, rfl, trivial⟩, ([] : List TPair), none, 0, [], x3.2.1, (0 : Int), rfl, rfl, h4, hF⟩ ?_
      rintro n16 L' V17 M' ⟨x13, a12, k12, cs12, x14, x15, rfl, rfl, h12, hF⟩
      rcases n16 with _ | n16
      · exact absurd hF (by simp [F_state_Decode_L1])
      rw [F_state_Decode_L1] at hF
      refine Exec.run tyOk 400 rfl ?_
      rcases cond_some hF with ⟨hb, hF⟩ | ⟨hb, hF⟩
      · skip
        refine Exec.ifT rfl hb ?_
        refine Exec.run tyOk 400 rfl ?_
        obtain ⟨x18, hx18, hF⟩ := bnd_some hF
        refine Exec.callS (.tuple ⟨[.string ⟨⟨x18.1⟩⟩, .int .i64 (x18.2.1), .int .i64 (x18.2.2)]⟩) rfl rfl (W_wire_TakeText x1 x14 ((24 : Int))  hx18) ?_
        refine Exec.run tyOk 400 rfl ?_
        rcases cond_some hF with ⟨hb, hF⟩ | ⟨hb, hF⟩
        · skip
          refine Exec.ifT rfl hb ?_
          refine Exec.run tyOk 400 rfl ?_
          obtain rfl := some_inj hF
          exact Exec.ret tyOk rfl rfl ⟨_, _, rfl, SlAt.nil⟩
        · skip
          refine Exec.ifF rfl hb ?_
          refine Exec.run tyOk 400 rfl ?_
          obtain ⟨x19, hx19, hF⟩ := bnd_some hF
          refine Exec.callS (.tuple ⟨[.agg ⟨[.int .i64 (x19.1.Kind), .int .i64 (x19.1.N), .string ⟨⟨x19.1.S⟩⟩]⟩, .int .i64 (x19.2.1), .int .i64 (x19.2.2)]⟩) rfl rfl (W_value_Decode x1 x18.2.1  hx19) ?_
          refine Exec.run tyOk 400 rfl ?_
          rcases cond_some hF with ⟨hb, hF⟩ | ⟨hb, hF⟩
          · skip
            refine Exec.ifT rfl hb ?_
            refine Exec.run tyOk 400 rfl ?_
            obtain rfl := some_inj hF
            exact Exec.ret tyOk rfl rfl ⟨_, _, rfl, SlAt.nil⟩
          · skip
            refine Exec.ifF rfl hb ?_
            refine Exec.run tyOk 400 rfl ?_
            refine Exec.bsl tyOk rfl rfl ?_
            refine Exec.run tyOk 400 rfl ?_
            obtain ⟨q21, hF⟩ := req_some hF
            refine Exec.app tyOk 0 2 (nm := ((x13 ++ [(⟨x18.1, x19.1⟩ : TPair)])).length) rfl rfl rfl rfl rfl rfl rfl rfl rfl (by simp) (fun _ _ => rfl) rfl q21 (fun a20 k20 => ?_)
            have h20 : RowRep cTPair V17 (x13 ++ [(⟨x18.1, x19.1⟩ : TPair)]) (cs12 ++ [.string ⟨⟨x18.1⟩⟩, .int .i64 (x19.1.Kind), .int .i64 (x19.1.N), .string ⟨⟨x19.1.S⟩⟩]) := RowRep.app h12 ⟨_, _, rfl, rfl, rfl⟩
            refine Exec.run tyOk 400 rfl ?_
            refine Exec.cut 1 [(0, .v (.string ⟨⟨x1⟩⟩)), (1, .v (.int .i64 (x19.2.1))), (9, .v (.slice a20 (((x13 ++ [(⟨x18.1, x19.1⟩ : TPair)])).length) (k20))), (25, .v (.int .i64 (x3.1))), (26, .v (.int .i64 ((IntKind.i64.wrap (x15 + (1 : Int))))))] (M' := [.row (.slice a20 (((x13 ++ [(⟨x18.1, x19.1⟩ : TPair)])).length) (k20)) ((cs12 ++ [.string ⟨⟨x18.1⟩⟩, .int .i64 (x19.1.Kind), .int .i64 (x19.1.N), .string ⟨⟨x19.1.S⟩⟩])) 70 4]) rfl ⟨rfl, rfl, rfl, rfl, rfl, trivial⟩ rfl rfl rfl ?_
            exact Exec.round [(0, .v (.string ⟨⟨x1⟩⟩)), (1, .v (.int .i64 (x19.2.1))), (9, .v (.slice a20 (((x13 ++ [(⟨x18.1, x19.1⟩ : TPair)])).length) (k20))), (25, .v (.int .i64 (x3.1))), (26, .v (.int .i64 ((IntKind.i64.wrap (x15 + (1 : Int))))))] ⟨rfl, rfl, rfl, rfl, rfl, trivial⟩ ⟨n16, Nat.lt_succ_self _, (x13 ++ [(⟨x18.1, x19.1⟩ : TPair)]), a20, k20, (cs12 ++ [.string ⟨⟨x18.1⟩⟩, .int .i64 (x19.1.Kind), .int .i64 (x19.1.N), .string ⟨⟨x19.1.S⟩⟩]), x19.2.1, (IntKind.i64.wrap (x15 + (1 : Int))), rfl, rfl, h20, hF⟩
      · skip
        refine Exec.ifF rfl hb ?_
        refine Exec.run tyOk 400 rfl ?_
        exact Exec.round [(1, .v (.int .i64 (x14))), (9, .v (.slice a12 ((x13).length) (k12)))] ⟨rfl, rfl, trivial⟩ ⟨x13, a12, k12, cs12, x14, rfl, rfl, h12, hF⟩

def F_exchange_validMail_L1 (x1 : TMail) (J4 : Option Bool) : Nat → Int → Option Bool
  | 0, _ => none
  | n10 + 1, x9 => (cond (decide (x9 < (((x1.Keys).length : Nat) : Int))) (req (0 ≤ x9 ∧ x9 < ((x1.Keys).length : Int)) (bnd (F_keys_Valid ((atI x1.Keys x9))) fun x16 => (req (((((decide ((0 : Int) < x9))) == true) && (((!x16)) == false)) = true → 0 ≤ (IntKind.i64.wrap (x9 - (1 : Int))) ∧ (IntKind.i64.wrap (x9 - (1 : Int))) < ((x1.Keys).length : Int)) (cond ((!x16) || ((decide ((0 : Int) < x9)) && (!sLt (cond ((((decide ((0 : Int) < x9))) == true) && (((!x16)) == false)) (atI x1.Keys ((IntKind.i64.wrap (x9 - (1 : Int))))) default) (atI x1.Keys x9)))) (some false) (F_exchange_validMail_L1 x1 J4 n10 ((IntKind.i64.wrap (x9 + (1 : Int))))))))) J4)

def F_exchange_validMail (x1 : TMail) : Option Bool :=
  (cond (((((((decide (x1.Txn < (0 : Int))) || (decide ((1099511627776 : Int) < x1.Txn))) || (decide (x1.From < (1 : Int)))) || (decide ((16 : Int) < x1.From))) || (decide (x1.To < (1 : Int)))) || (decide ((16 : Int) < x1.To))) || (decide ((64 : Int) < (((x1.Keys).length : Nat) : Int)))) (some false) (jn ((bnd (F_state_Valid x1.Pairs) fun x8 => (some x8))) (fun J4 => (F_exchange_validMail_L1 x1 J4 (((((x1.Keys).length : Nat) : Int)).toNat + 1) ((0 : Int))))))

set_option maxRecDepth 100000 in
theorem W_exchange_validMail {V : View} (x1 : TMail) {a2 : Option Addr} {k2 : Nat} {a3 : Option Addr} {k3 : Nat} (h2 : SlAt cStr V a2 k2 x1.Keys) (h3 : SlAt cTPair V a3 k3 x1.Pairs) {r : Bool} (hF : F_exchange_validMail x1 = some r) :
    Spec Tryz.prog 78 [.agg ⟨[.int .i64 (x1.Txn), .int .i64 (x1.From), .int .i64 (x1.To), .slice a2 ((x1.Keys).length) (k2), .slice a3 ((x1.Pairs).length) (k3)]⟩] V (fun _ v => v = .bool (r)) := by
  unfold F_exchange_validMail at hF
  refine Spec.enter (T := tyT) Tryz.func78 rfl (by kernel_rfl) rfl rfl rfl ?_
  refine Exec.run tyOk 400 rfl ?_
  rcases cond_some hF with ⟨hb, hF⟩ | ⟨hb, hF⟩
  · skip
    refine Exec.ifT rfl hb ?_
    refine Exec.run tyOk 400 rfl ?_
    obtain rfl := some_inj hF
    exact Exec.ret tyOk rfl rfl rfl
  · skip
    refine Exec.ifF rfl hb ?_
    refine Exec.run tyOk 9 rfl ?_
    obtain ⟨J4, hJ4, hF⟩ := jn_some hF
    refine Exec.seam (fun L' V' M' => L' = [(1, .ptr 0 0)] ∧ M' = [.blk [.v (.int .i64 (x1.Txn)), .v (.int .i64 (x1.From)), .v (.int .i64 (x1.To)), .v (.slice a2 ((x1.Keys).length) (k2)), .v (.slice a3 ((x1.Pairs).length) (k3))] 50] ∧ SlAt cStr V' a2 k2 x1.Keys ∧ SlAt cTPair V' a3 k3 x1.Pairs ∧ J4 = some r) rfl ?_ ?_
    · rintro L' V5 M' ⟨rfl, rfl, h6, h7, hF⟩
      subst hJ4
      refine Exec.run tyOk 400 rfl ?_
      obtain ⟨x8, hx8, hF⟩ := bnd_some hF
      refine Exec.callS (.bool (x8)) rfl rfl (W_state_Valid x1.Pairs h7 hx8) ?_
      refine Exec.run tyOk 400 rfl ?_
      obtain rfl := some_inj hF
      exact Exec.ret tyOk rfl rfl rfl
    · skip
      refine Exec.run tyOk 400 rfl ?_
      refine Exec.loop (fun n10 L' V' M' => ∃ (x9 : Int), L' = [(1, .ptr 0 0), (40, .v (.slice a2 ((x1.Keys).length) (k2))), (41, .v (.int .i64 ((((x1.Keys).length : Nat) : Int)))), (42, .v (.int .i64 (x9)))] ∧ M' = [.blk [.v (.int .i64 (x1.Txn)), .v (.int .i64 (x1.From)), .v (.int .i64 (x1.To)), .v (.slice a2 ((x1.Keys).length) (k2)), .v (.slice a3 ((x1.Pairs).length) (k3))] 50] ∧ SlAt cStr V' a2 k2 x1.Keys ∧ SlAt cTPair V' a3 k3 x1.Pairs ∧ F_exchange_validMail_L1 x1 J4 n10 x9 = some r) ⟨(((((x1.Keys).length : Nat) : Int)).toNat + 1), [(1, .ptr 0 0), (40, .v (.slice a2 ((x1.Keys).length) (k2))), (41, .v (.int .i64 ((((x1.Keys).length : Nat) : Int)))), (42, .v (.int .i64 ((0 : Int))))], ⟨rfl, rfl, rfl, rfl, trivial⟩, (0 : Int), rfl, rfl, h2, h3, hF⟩ ?_
      rintro n10 L' V11 M' ⟨x9, rfl, rfl, h12, h13, hF⟩
      rcases n10 with _ | n10
      · exact absurd hF (by simp [F_exchange_validMail_L1])
      rw [F_exchange_validMail_L1] at hF
      refine Exec.run tyOk 400 rfl ?_
      rcases cond_some hF with ⟨hb, hF⟩ | ⟨hb, hF⟩
      · skip
        refine Exec.ifT rfl hb ?_
        refine Exec.run tyOk 400 rfl ?_
        obtain ⟨q14, hF⟩ := req_some hF
        obtain ⟨c15, hr15, hd15⟩ := SlAt.get h12 q14
        obtain rfl := hr15
        refine Exec.ia tyOk rfl rfl ⟨q14.1, q14.2, hd15.some⟩ ?_
        refine Exec.run tyOk 400 rfl ?_
        refine Exec.ld tyOk (x := .string ⟨⟨(atI x1.Keys x9)⟩⟩) rfl rfl hd15 rfl rfl ?_
        refine Exec.run tyOk 400 rfl ?_
        obtain ⟨x16, hx16, hF⟩ := bnd_some hF
        refine Exec.callS (.bool (x16)) rfl rfl (W_keys_Valid ((atI x1.Keys x9))  hx16) ?_
        refine Exec.run tyOk 400 rfl ?_
        obtain ⟨q17, hF⟩ := req_some hF
        obtain ⟨c18, hr18, hd18⟩ := SlAt.gget ((((decide ((0 : Int) < x9))) == true) && (((!x16)) == false)) h12 q17
        obtain rfl := hr18
        refine Exec.ia tyOk rfl rfl (fun gg0 gg1 => ⟨(q17 (gd2_of gg0 gg1)).1, (q17 (gd2_of gg0 gg1)).2, (hd18 (gd2_of gg0 gg1)).some⟩) ?_
        refine Exec.run tyOk 400 rfl ?_
        refine Exec.ld tyOk (x := .string ⟨⟨(cond ((((decide ((0 : Int) < x9))) == true) && (((!x16)) == false)) (atI x1.Keys ((IntKind.i64.wrap (x9 - (1 : Int))))) default)⟩⟩) rfl rfl (fun gg0 gg1 => (hd18 (gd2_of gg0 gg1))) rfl rfl ?_
        refine Exec.run tyOk 400 rfl ?_
        rcases cond_some hF with ⟨hb, hF⟩ | ⟨hb, hF⟩
        · skip
          refine Exec.ifT rfl hb ?_
          refine Exec.run tyOk 400 rfl ?_
          obtain rfl := some_inj hF
          exact Exec.ret tyOk rfl rfl rfl
        · skip
          refine Exec.ifF rfl hb ?_
          refine Exec.run tyOk 400 rfl ?_
          exact Exec.round [(1, .ptr 0 0), (40, .v (.slice a2 ((x1.Keys).length) (k2))), (41, .v (.int .i64 ((((x1.Keys).length : Nat) : Int)))), (42, .v (.int .i64 ((IntKind.i64.wrap (x9 + (1 : Int))))))] ⟨rfl, rfl, rfl, rfl, trivial⟩ ⟨n10, Nat.lt_succ_self _, (IntKind.i64.wrap (x9 + (1 : Int))), rfl, rfl, h12, h13, hF⟩
      · skip
        refine Exec.ifF rfl hb ?_
        refine Exec.run tyOk 400 rfl ?_
        exact Exec.round [(1, .ptr 0 0)] ⟨rfl, trivial⟩ ⟨rfl, rfl, h12, h13, hF⟩

def F_clockworkref06_Decode_L1 (x3 : Int × Int × Int) (x1 : Str) (J8 : (List TPair) → Int → Option (List TPair × Int × Int)) : Nat → (List TPair) → Int → Int → Option (List TPair × Int × Int)
  | 0, _, _, _ => none
  | n16 + 1, x13, x14, x15 => (cond (decide (x15 < x3.1)) (bnd (F_clockworkref02_TakeText x1 x14 ((24 : Int))) fun x18 => (cond (x18.2.2 != (0 : Int)) (some (([] : List TPair), (0 : Int), x18.2.2)) (bnd (F_clockworkref05_Decode x1 x18.2.1) fun x19 => (cond (x19.2.2 != (0 : Int)) (some (([] : List TPair), (0 : Int), x19.2.2)) (req (((x13 ++ [(⟨x18.1, x19.1⟩ : TPair)])).length * 48 ≤ 140737488355328) (F_clockworkref06_Decode_L1 x3 x1 J8 n16 ((x13 ++ [(⟨x18.1, x19.1⟩ : TPair)])) x19.2.1 ((IntKind.i64.wrap (x15 + (1 : Int)))))))))) (J8 x13 x14))

def F_clockworkref06_Decode (x1 : Str) (x2 : Int) : Option (List TPair × Int × Int) :=
  (bnd (F_clockworkref02_TakeCount x1 x2 ((2147483647 : Int))) fun x3 => (cond (x3.2.2 != (0 : Int)) (some (([] : List TPair), (0 : Int), x3.2.2)) (jn (fun (x6 : List TPair) (x7 : Int) => (bnd (F_clockworkref06_Valid x6) fun x10 => (cond (!x10) (some (([] : List TPair), (0 : Int), (5 : Int))) (some (x6, x7, (0 : Int)))))) (fun J8 => (F_clockworkref06_Decode_L1 x3 x1 J8 ((x3.1).toNat + 1) (([] : List TPair)) x3.2.1 ((0 : Int)))))))

set_option maxRecDepth 100000 in
theorem W_clockworkref06_Decode {V : View} (x1 : Str) (x2 : Int)   {r : List TPair × Int × Int} (hF : F_clockworkref06_Decode x1 x2 = some r) :
    Spec Tryz.prog 82 [.string ⟨⟨x1⟩⟩, .int .i64 (x2)] V (fun V' v => ∃ (a22 : Option Addr) (k22 : Nat), v = .tuple ⟨[.slice a22 ((r.1).length) (k22), .int .i64 (r.2.1), .int .i64 (r.2.2)]⟩ ∧ SlAt cTPair V' a22 k22 r.1) := by
  unfold F_clockworkref06_Decode at hF
  refine Spec.enter (T := tyT) Tryz.func82 rfl (by kernel_rfl) rfl rfl rfl ?_
  refine Exec.run tyOk 400 rfl ?_
  obtain ⟨x3, hx3, hF⟩ := bnd_some hF
  refine Exec.callS (.tuple ⟨[.int .i64 (x3.1), .int .i64 (x3.2.1), .int .i64 (x3.2.2)]⟩) rfl rfl (W_clockworkref02_TakeCount x1 x2 ((2147483647 : Int))  hx3) ?_
  refine Exec.run tyOk 400 rfl ?_
  rcases cond_some hF with ⟨hb, hF⟩ | ⟨hb, hF⟩
  · skip
    refine Exec.ifT rfl hb ?_
    refine Exec.run tyOk 400 rfl ?_
    obtain rfl := some_inj hF
    exact Exec.ret tyOk rfl rfl ⟨_, _, rfl, SlAt.nil⟩
  · skip
    refine Exec.ifF rfl hb ?_
    refine Exec.run tyOk 10 rfl ?_
    refine Exec.row0 70 4 rfl ?_
    have h4 : RowRep cTPair V ([] : List TPair) [] := RowRep.nil
    obtain ⟨J8, hJ8, hF⟩ := jn_some hF
    refine Exec.seam (fun L' V' M' => ∃ (x6 : List TPair) (a5 : Option Addr) (k5 : Nat) (cs5 : List Value) (x7 : Int), L' = [(8, .v (.int .i64 (x7))), (10, .v (.slice a5 ((x6).length) (k5)))] ∧ M' = [.row (.slice a5 ((x6).length) (k5)) cs5 70 4] ∧ RowRep cTPair V' x6 cs5 ∧ J8 x6 x7 = some r) rfl ?_ ?_
    · rintro L' V9 M' ⟨x6, a5, k5, cs5, x7, rfl, rfl, h5, hF⟩
      subst hJ8
      refine Exec.run tyOk 400 rfl ?_
      obtain ⟨x10, hx10, hF⟩ := bnd_some hF
      refine Exec.callL (.bool (x10)) rfl rfl (fun _ hv hl => W_clockworkref06_Valid x6 (RowRep.slat h5 hv (hl 0 _ _ _ _ _ _ rfl).1 (hl 0 _ _ _ _ _ _ rfl).2) hx10) ?_
      refine Exec.run tyOk 400 rfl ?_
      rcases cond_some hF with ⟨hb, hF⟩ | ⟨hb, hF⟩
      · skip
        refine Exec.ifT rfl hb ?_
        refine Exec.run tyOk 400 rfl ?_
        obtain rfl := some_inj hF
        exact Exec.ret tyOk rfl rfl ⟨_, _, rfl, SlAt.nil⟩
      · skip
        refine Exec.ifF rfl hb ?_
        refine Exec.run tyOk 400 rfl ?_
        refine Exec.frz 0 rfl rfl rfl (fun V11 hv11 hd11 hn11 => ?_)
        have hz11 := RowRep.slat h5 hv11 hd11 hn11
        obtain rfl := some_inj hF
        exact Exec.ret tyOk rfl rfl ⟨_, _, rfl, hz11⟩
    · skip
      refine Exec.run tyOk 400 rfl ?_
      refine Exec.loop (fun n16 L' V' M' => ∃ (x13 : List TPair) (a12 : Option Addr) (k12 : Nat) (cs12 : List Value) (x14 : Int) (x15 : Int), L' = [(0, .v (.string ⟨⟨x1⟩⟩)), (7, .v (.int .i64 (x3.1))), (8, .v (.int .i64 (x14))), (10, .v (.slice a12 ((x13).length) (k12))), (11, .v (.int .i64 (x15)))] ∧ M' = [.row (.slice a12 ((x13).length) (k12)) cs12 70 4] ∧ RowRep cTPair V' x13 cs12 ∧ F_clockworkref06_Decode_L1 x3 x1 J8 n16 x13 x14 x15 = some r) ⟨((x3.1).toNat + 1), [(0, .v (.string ⟨⟨x1⟩⟩)), (7, .v (.int .i64 (x3.1))), (8, .v (.int .i64 (x3.2.1))), (10, .v (.slice none ((([] : List TPair)).length) (0))), (11, .v (.int .i64 ((0 : Int))))], ⟨rfl, rfl, rfl, rfl, rfl, trivial⟩, ([] : List TPair), none, 0, [], x3.2.1, (0 : Int), rfl, rfl, h4, hF⟩ ?_
      rintro n16 L' V17 M' ⟨x13, a12, k12, cs12, x14, x15, rfl, rfl, h12, hF⟩
      rcases n16 with _ | n16
      · exact absurd hF (by simp [F_clockworkref06_Decode_L1])
      rw [F_clockworkref06_Decode_L1] at hF
      refine Exec.run tyOk 400 rfl ?_
      rcases cond_some hF with ⟨hb, hF⟩ | ⟨hb, hF⟩
      · skip
        refine Exec.ifT rfl hb ?_
        refine Exec.run tyOk 400 rfl ?_
        obtain ⟨x18, hx18, hF⟩ := bnd_some hF
        refine Exec.callS (.tuple ⟨[.string ⟨⟨x18.1⟩⟩, .int .i64 (x18.2.1), .int .i64 (x18.2.2)]⟩) rfl rfl (W_clockworkref02_TakeText x1 x14 ((24 : Int))  hx18) ?_
        refine Exec.run tyOk 400 rfl ?_
        rcases cond_some hF with ⟨hb, hF⟩ | ⟨hb, hF⟩
        · skip
          refine Exec.ifT rfl hb ?_
          refine Exec.run tyOk 400 rfl ?_
          obtain rfl := some_inj hF
          exact Exec.ret tyOk rfl rfl ⟨_, _, rfl, SlAt.nil⟩
        · skip
          refine Exec.ifF rfl hb ?_
          refine Exec.run tyOk 400 rfl ?_
          obtain ⟨x19, hx19, hF⟩ := bnd_some hF
          refine Exec.callS (.tuple ⟨[.agg ⟨[.int .i64 (x19.1.Kind), .int .i64 (x19.1.N), .string ⟨⟨x19.1.S⟩⟩]⟩, .int .i64 (x19.2.1), .int .i64 (x19.2.2)]⟩) rfl rfl (W_clockworkref05_Decode x1 x18.2.1  hx19) ?_
          refine Exec.run tyOk 400 rfl ?_
          rcases cond_some hF with ⟨hb, hF⟩ | ⟨hb, hF⟩
          · skip
            refine Exec.ifT rfl hb ?_
            refine Exec.run tyOk 400 rfl ?_
            obtain rfl := some_inj hF
            exact Exec.ret tyOk rfl rfl ⟨_, _, rfl, SlAt.nil⟩
          · skip
            refine Exec.ifF rfl hb ?_
            refine Exec.run tyOk 400 rfl ?_
            refine Exec.bsl tyOk rfl rfl ?_
            refine Exec.run tyOk 400 rfl ?_
            obtain ⟨q21, hF⟩ := req_some hF
            refine Exec.app tyOk 0 2 (nm := ((x13 ++ [(⟨x18.1, x19.1⟩ : TPair)])).length) rfl rfl rfl rfl rfl rfl rfl rfl rfl (by simp) (fun _ _ => rfl) rfl q21 (fun a20 k20 => ?_)
            have h20 : RowRep cTPair V17 (x13 ++ [(⟨x18.1, x19.1⟩ : TPair)]) (cs12 ++ [.string ⟨⟨x18.1⟩⟩, .int .i64 (x19.1.Kind), .int .i64 (x19.1.N), .string ⟨⟨x19.1.S⟩⟩]) := RowRep.app h12 ⟨_, _, rfl, rfl, rfl⟩
            refine Exec.run tyOk 400 rfl ?_
            refine Exec.cut 1 [(0, .v (.string ⟨⟨x1⟩⟩)), (7, .v (.int .i64 (x3.1))), (8, .v (.int .i64 (x19.2.1))), (10, .v (.slice a20 (((x13 ++ [(⟨x18.1, x19.1⟩ : TPair)])).length) (k20))), (11, .v (.int .i64 ((IntKind.i64.wrap (x15 + (1 : Int))))))] (M' := [.row (.slice a20 (((x13 ++ [(⟨x18.1, x19.1⟩ : TPair)])).length) (k20)) ((cs12 ++ [.string ⟨⟨x18.1⟩⟩, .int .i64 (x19.1.Kind), .int .i64 (x19.1.N), .string ⟨⟨x19.1.S⟩⟩])) 70 4]) rfl ⟨rfl, rfl, rfl, rfl, rfl, trivial⟩ rfl rfl rfl ?_
            exact Exec.round [(0, .v (.string ⟨⟨x1⟩⟩)), (7, .v (.int .i64 (x3.1))), (8, .v (.int .i64 (x19.2.1))), (10, .v (.slice a20 (((x13 ++ [(⟨x18.1, x19.1⟩ : TPair)])).length) (k20))), (11, .v (.int .i64 ((IntKind.i64.wrap (x15 + (1 : Int))))))] ⟨rfl, rfl, rfl, rfl, rfl, trivial⟩ ⟨n16, Nat.lt_succ_self _, (x13 ++ [(⟨x18.1, x19.1⟩ : TPair)]), a20, k20, (cs12 ++ [.string ⟨⟨x18.1⟩⟩, .int .i64 (x19.1.Kind), .int .i64 (x19.1.N), .string ⟨⟨x19.1.S⟩⟩]), x19.2.1, (IntKind.i64.wrap (x15 + (1 : Int))), rfl, rfl, h20, hF⟩
      · skip
        refine Exec.ifF rfl hb ?_
        refine Exec.run tyOk 400 rfl ?_
        exact Exec.round [(8, .v (.int .i64 (x14))), (10, .v (.slice a12 ((x13).length) (k12)))] ⟨rfl, rfl, trivial⟩ ⟨x13, a12, k12, cs12, x14, rfl, rfl, h12, hF⟩

-- uses W_wire_Uint W_wire_Text W_value_Encode
theorem CellsAt.one {cs : List Value} {o : Nat} {v : Value} (h : cs[o]? = some v) : CellsAt cs o [v] := by
  intro j u hu
  cases j with
  | zero => simp at hu; subst hu; simpa using h
  | succ j => simp at hu

/-- A strings.Builder that holds the bytes s: its own block and its buffer. -/
def BRel (b : Nat) (s : Str) (r0 r1 : RowD) : Prop :=
  ∃ (p a : Option Addr) (k : Nat), (p = none ∨ p = some ⟨b, 0, none⟩) ∧ r0 = ⟨.slice (some ⟨b, 0, none⟩) 1 1, [.pointer p, .slice a (s).length k], 102, 2⟩ ∧ r1 = ⟨.slice a (s).length k, Lib.byteCells s, 5, 1⟩

def bWrite (s t : Str) : Option Str := req ((s ++ t).length ≤ 140737488355328) (some (s ++ t))

set_option maxRecDepth 100000 in
theorem X_copyCheck {V : View} (b : Nat) (p : Option Addr) (v : Value) (hp : p = none ∨ p = some ⟨b, 0, none⟩) :
    SpecR Tryz.prog 128 [.pointer (some ⟨b, 0, none⟩)] [⟨.slice (some ⟨b, 0, none⟩) 1 1, [.pointer p, v], 102, 2⟩] V (fun V' w rs' => w = .tuple ⟨[]⟩ ∧ rs' = [⟨.slice (some ⟨b, 0, none⟩) 1 1, [.pointer (some ⟨b, 0, none⟩), v], 102, 2⟩]) := by
  have hb : (Tryz.prog.info? 102).map (·.size) = some 2 := by kernel_rfl
  obtain ⟨j, hj, hjs⟩ := Option.map_eq_some_iff.1 hb
  refine SpecR.enter (T := tyT) Tryz.func128 rfl (by kernel_rfl) rfl rfl rfl (M := [.row (.slice (some ⟨b, 0, none⟩) 1 1) [.pointer p, v] 102 2]) rfl ?_
  refine Exec.run tyOk 400 rfl ?_
  refine Exec.ldP tyOk 0 (l := [.pointer p]) rfl rfl rfl (CellsAt.one rfl) rfl rfl ?_
  refine Exec.run tyOk 400 rfl ?_
  rcases hp with rfl | rfl
  · skip
    refine Exec.ptrB rfl rfl rfl rfl (fun w => run_eql_nil w Tryz.underlying99 hj) ?_
    refine Exec.run tyOk 400 rfl ?_
    refine Exec.ifT rfl rfl ?_
    refine Exec.run tyOk 400 rfl ?_
    refine Exec.cvP 0 rfl rfl rfl rfl (fun w hw => Lib.run_to_unsafe w ⟨b, 0, none⟩ Tryz.underlying99 Tryz.underlying150 hj (by rw [hjs]; decide) hw (Nat.zero_lt_succ 1)) ?_
    refine Exec.run tyOk 400 rfl ?_
    refine Exec.nesc rfl rfl rfl Tryz.func150 rfl rfl (by kernel_rfl) (by kernel_rfl) ?_
    refine Exec.run tyOk 400 rfl ?_
    refine Exec.cvP 0 rfl rfl rfl rfl (fun w hw => Lib.run_from_unsafe w ⟨b, 0, none⟩ Tryz.underlying150 Tryz.underlying99 hj hw (by kernel_rfl)) ?_
    refine Exec.run tyOk 400 rfl ?_
    refine Exec.stP tyOk 0 rfl rfl rfl rfl rfl (Nat.le_of_ble_eq_true rfl) rfl rfl rfl ?_
    refine Exec.run tyOk 400 rfl ?_
    refine Exec.fall tyOk rfl rfl ?_
    exact ⟨[⟨.slice (some ⟨b, 0, none⟩) 1 1, [.pointer (some ⟨b, 0, none⟩), v], 102, 2⟩], rfl, rfl, rfl, rfl⟩
  · skip
    refine Exec.ptrB rfl rfl rfl rfl (fun w => run_eql_some w _ Tryz.underlying99 hj) ?_
    refine Exec.run tyOk 400 rfl ?_
    refine Exec.ifF rfl rfl ?_
    refine Exec.run tyOk 400 rfl ?_
    refine Exec.ldP tyOk 0 (l := [.pointer (some ⟨b, 0, none⟩)]) rfl rfl rfl (CellsAt.one rfl) rfl rfl ?_
    refine Exec.run tyOk 400 rfl ?_
    refine Exec.ptrB rfl rfl rfl rfl (fun w => Lib.run_neq_ptr_same w _ Tryz.underlying99 hj) ?_
    refine Exec.run tyOk 400 rfl ?_
    refine Exec.ifF rfl rfl ?_
    refine Exec.run tyOk 400 rfl ?_
    refine Exec.fall tyOk rfl rfl ?_
    exact ⟨[⟨.slice (some ⟨b, 0, none⟩) 1 1, [.pointer (some ⟨b, 0, none⟩), v], 102, 2⟩], rfl, rfl, rfl, rfl⟩

set_option maxRecDepth 100000 in
theorem X_WriteString {V : View} (b : Nat) (s t : Str) {r : Str} {r0 r1 : RowD} (hr : BRel b s r0 r1) (hF : bWrite s t = some r) :
    SpecR Tryz.prog 83 [.pointer (some ⟨b, 0, none⟩), .string ⟨⟨t⟩⟩] [r0, r1] V (fun V' w rs' => w = .tuple ⟨[.int .i64 (t.length : Int), .nilIface]⟩ ∧ ∃ q0 q1, rs' = [q0, q1] ∧ BRel b r q0 q1) := by
  obtain ⟨p, a, k, hp, rfl, rfl⟩ := hr
  unfold bWrite at hF
  obtain ⟨q, hF⟩ := req_some hF
  obtain rfl := some_inj hF
  refine SpecR.enter (T := tyT) Tryz.func83 rfl (by kernel_rfl) rfl rfl rfl (M := [.row (.slice (some ⟨b, 0, none⟩) 1 1) [.pointer p, .slice a (s).length k] 102 2, .row (.slice a (s).length k) (Lib.byteCells s) 5 1]) rfl ?_
  refine Exec.run tyOk 400 rfl ?_
  refine Exec.callR [0] (rs := [⟨.slice (some ⟨b, 0, none⟩) 1 1, [.pointer p, .slice a (s).length k], 102, 2⟩]) rfl rfl rfl rfl rfl rfl (X_copyCheck b p _ hp) ?_
  rintro V7 _ _ hv7 ⟨rfl, rfl⟩
  refine ⟨_, rfl, ?_⟩
  refine Exec.run tyOk 400 rfl ?_
  refine Exec.ldP tyOk 0 (l := [.slice a (s).length k]) rfl rfl rfl (CellsAt.one rfl) rfl rfl ?_
  refine Exec.run tyOk 400 rfl ?_
  refine Exec.apStr tyOk 1 (nm := (s ++ t).length) rfl rfl rfl (by kernel_rfl) rfl rfl rfl rfl rfl rfl List.length_append.symm q (fun _ _ => rfl) rfl (fun a' k' => ?_)
  refine Exec.run tyOk 400 rfl ?_
  refine Exec.stP tyOk 0 rfl rfl rfl rfl rfl (Nat.le_of_ble_eq_true rfl) rfl rfl rfl ?_
  refine Exec.run tyOk 400 rfl ?_
  exact Exec.ret tyOk rfl rfl ⟨[⟨.slice (some ⟨b, 0, none⟩) 1 1, [.pointer (some ⟨b, 0, none⟩), .slice a' (s ++ t).length k'], 102, 2⟩, ⟨.slice a' (s ++ t).length k', Lib.byteCells s ++ Lib.byteCells t, 5, 1⟩], rfl, rfl, rfl, _, _, rfl, _, a', k', .inr rfl, rfl, by rw [Lib.byteCells_append]⟩

set_option maxRecDepth 100000 in
theorem X_String {V : View} (b : Nat) (s : Str) {r0 r1 : RowD} (hr : BRel b s r0 r1) (h0 : s ≠ []) :
    SpecR Tryz.prog 88 [.pointer (some ⟨b, 0, none⟩)] [r0, r1] V (fun V' w rs' => w = .string ⟨⟨s⟩⟩ ∧ ∃ q0 q1, rs' = [q0, q1]) := by
  obtain ⟨p, a, k, hp, rfl, rfl⟩ := hr
  have hpos : s.length ≠ 0 := fun h => h0 (List.eq_nil_of_length_eq_zero h)
  refine SpecR.enter (T := tyT) Tryz.func88 rfl (by kernel_rfl) rfl rfl rfl (M := [.row (.slice (some ⟨b, 0, none⟩) 1 1) [.pointer p, .slice a (s).length k] 102 2, .row (.slice a (s).length k) (Lib.byteCells s) 5 1]) rfl ?_
  refine Exec.run tyOk 400 rfl ?_
  refine Exec.rowA 1 rfl (fun _ hc _ hn hg => ?_)
  cases a with
  | none => exact absurd (hn rfl).1 hpos
  | some g =>
    obtain ⟨g, rfl⟩ := hg _ rfl
    refine Exec.drawsE tyOk [] [1] [(0, true), (1, true), (2, true), (3, true), (5, true), (6, true), (7, true), (8, true), (9, true), (4, false), (10, false), (11, false)] (by kernel_rfl) ?_
    refine Exec.run tyOk 400 rfl ?_
    refine Exec.fldP tyOk 0 (l := [.slice (some ⟨g, 0, none⟩) (s).length k]) rfl rfl rfl rfl (CellsAt.one rfl) rfl rfl ?_
    refine Exec.run tyOk 400 rfl ?_
    refine Exec.fldP tyOk 0 (l := [.slice (some ⟨g, 0, none⟩) (s).length k]) rfl rfl rfl rfl (CellsAt.one rfl) rfl rfl ?_
    refine Exec.run tyOk 400 rfl ?_
    refine Exec.usd rfl rfl rfl (by omega) ?_
    refine Exec.run tyOk 400 rfl ?_
    refine Exec.ustR tyOk 1 rfl rfl Tryz.underlying139 (by kernel_rfl) rfl rfl rfl h0 rfl rfl ?_
    refine Exec.run tyOk 400 rfl ?_
    exact Exec.ret tyOk rfl rfl ⟨[⟨.slice (some ⟨b, 0, none⟩) 1 1, [.pointer p, .slice (some ⟨g, 0, none⟩) (s).length k], 102, 2⟩, ⟨.slice none 0 0, [], 5, 1⟩], rfl, rfl, rfl, _, _, rfl⟩

def F_state_Encode_L1 (x1 : List TPair) (J : Str → Option Str) : Nat → Str → Int → Option Str
  | 0, _, _ => none
  | n8 + 1, s, x13 => cond (decide (x13 < (((x1).length : Nat) : Int))) (req (0 ≤ x13 ∧ x13 < ((x1).length : Int)) (bnd (F_wire_Text (atI x1 x13).Key) fun x20 => bnd (bWrite s x20) fun y1 => bnd (F_value_Encode (atI x1 x13).Val) fun x21 => bnd (bWrite y1 x21) fun y2 => F_state_Encode_L1 x1 J n8 y2 (IntKind.i64.wrap (x13 + (1 : Int))))) (J s)

def F_state_Encode (x1 : List TPair) : Option Str :=
  bnd (F_wire_Uint (IntKind.u64.wrap (((x1).length : Nat) : Int))) fun x9 => bnd (bWrite [] x9) fun y0 => jn (fun (s : Str) => req (s ≠ []) (some s)) fun J => F_state_Encode_L1 x1 J ((((x1).length : Nat) : Int).toNat + 1) y0 0

set_option maxRecDepth 100000 in
theorem W_state_Encode {V : View} (x1 : List TPair) {a2 : Option Addr} {k2 : Nat} (h2 : SlAt cTPair V a2 k2 x1) {r : Str} (hF : F_state_Encode x1 = some r) :
    Spec Tryz.prog 87 [.slice a2 ((x1).length) (k2)] V (fun _ v => v = .string ⟨⟨r⟩⟩) := by
  unfold F_state_Encode at hF
  refine Spec.enter (T := tyT) Tryz.func87 rfl (by kernel_rfl) rfl rfl rfl ?_
  refine Exec.run tyOk 400 rfl ?_
  obtain ⟨x9, hx9, hF⟩ := bnd_some hF
  refine Exec.callS (.string ⟨⟨x9⟩⟩) rfl rfl (W_wire_Uint _ hx9) ?_
  refine Exec.run tyOk 400 rfl ?_
  refine Exec.fixR 0 (n := 1) (sz := 2) rfl rfl rfl rfl rfl (fun _ => rfl) (fun _ => rfl) (fun _ => rfl) (fun b => ?_)
  refine Exec.row0 5 1 rfl ?_
  obtain ⟨y0, hy0, hF⟩ := bnd_some hF
  refine Exec.callR [0, 1] (rs := [⟨.slice (some ⟨b, 0, none⟩) 1 1, [.pointer none, .slice none 0 0], 102, 2⟩, ⟨.slice none 0 0, [], 5, 1⟩]) rfl rfl rfl rfl rfl rfl (X_WriteString b [] x9 ⟨none, none, 0, .inl rfl, rfl, rfl⟩ hy0) ?_
  rintro V5 _ _ hv5 ⟨rfl, q0, q1, rfl, p, a, k, hp, rfl, rfl⟩
  refine ⟨_, rfl, ?_⟩
  have h6 := SlAt.mono h2 hv5
  refine Exec.run tyOk 2 rfl ?_
  obtain ⟨J7, hJ7, hF⟩ := jn_some hF
  refine Exec.seam (fun L' V' M' => ∃ (s : Str) (p a : Option Addr) (k : Nat), L' = [(3, .v (.pointer (some ⟨b, 0, none⟩)))] ∧ M' = [.row (.slice (some ⟨b, 0, none⟩) 1 1) [.pointer p, .slice a (s).length k] 102 2, .row (.slice a (s).length k) (Lib.byteCells s) 5 1] ∧ (p = none ∨ p = some ⟨b, 0, none⟩) ∧ J7 s = some r) rfl ?_ ?_
  · rintro L' V8 M' ⟨s, p, a, k, rfl, rfl, hp, hF⟩
    subst hJ7
    obtain ⟨q9, hF⟩ := req_some hF
    obtain rfl := some_inj hF
    refine Exec.run tyOk 400 rfl ?_
    refine Exec.callR [0, 1] (rs := [_, _]) rfl rfl rfl rfl rfl rfl (X_String b s ⟨p, a, k, hp, rfl, rfl⟩ q9) ?_
    rintro V10 _ rs' hv10 ⟨rfl, q0, q1, rfl⟩
    refine ⟨_, rfl, ?_⟩
    refine Exec.run tyOk 400 rfl ?_
    exact Exec.ret tyOk rfl rfl rfl
  · skip
    refine Exec.run tyOk 400 rfl ?_
    refine Exec.loop (fun n8 L' V' M' => ∃ (s : Str) (p a : Option Addr) (k : Nat) (x13 : Int), L' = [(3, .v (.pointer (some ⟨b, 0, none⟩))), (11, .v (.slice a2 ((x1).length) (k2))), (12, .v (.int .i64 (((x1).length : Nat) : Int))), (13, .v (.int .i64 (x13)))] ∧ M' = [.row (.slice (some ⟨b, 0, none⟩) 1 1) [.pointer p, .slice a (s).length k] 102 2, .row (.slice a (s).length k) (Lib.byteCells s) 5 1] ∧ (p = none ∨ p = some ⟨b, 0, none⟩) ∧ SlAt cTPair V' a2 k2 x1 ∧ F_state_Encode_L1 x1 J7 n8 s x13 = some r) ⟨((((x1).length : Nat) : Int).toNat + 1), [(3, .v (.pointer (some ⟨b, 0, none⟩))), (11, .v (.slice a2 ((x1).length) (k2))), (12, .v (.int .i64 (((x1).length : Nat) : Int))), (13, .v (.int .i64 (0)))], ⟨rfl, rfl, rfl, rfl, trivial⟩, y0, p, a, k, (0 : Int), rfl, rfl, hp, h6, hF⟩ ?_
    clear hp h6 p a k hF
    rintro n8 L' V9 M' ⟨s, p, a, k, x13, rfl, rfl, hp, h10, hF⟩
    rcases n8 with _ | n8
    · exact absurd hF (by simp [F_state_Encode_L1])
    rw [F_state_Encode_L1] at hF
    refine Exec.run tyOk 400 rfl ?_
    rcases cond_some hF with ⟨hb, hF⟩ | ⟨hb, hF⟩
    · skip
      refine Exec.ifT rfl hb ?_
      refine Exec.run tyOk 400 rfl ?_
      obtain ⟨q14, hF⟩ := req_some hF
      obtain ⟨c15, hr15, hd15⟩ := SlAt.get h10 q14
      obtain rfl := hr15
      refine Exec.ia tyOk rfl rfl ⟨q14.1, q14.2, hd15.some⟩ ?_
      refine Exec.run tyOk 400 rfl ?_
      refine Exec.ld tyOk (x := .agg ⟨[.string ⟨⟨(atI x1 x13).Key⟩⟩, .int .i64 ((atI x1 x13).Val.Kind), .int .i64 ((atI x1 x13).Val.N), .string ⟨⟨(atI x1 x13).Val.S⟩⟩]⟩) rfl rfl hd15 rfl rfl ?_
      refine Exec.run tyOk 400 rfl ?_
      obtain ⟨x20, hx20, hF⟩ := bnd_some hF
      refine Exec.callS (.string ⟨⟨x20⟩⟩) rfl rfl (W_wire_Text _ hx20) ?_
      refine Exec.run tyOk 400 rfl ?_
      obtain ⟨y1, hy1, hF⟩ := bnd_some hF
      refine Exec.callR [0, 1] (rs := [_, _]) rfl rfl rfl rfl rfl rfl (X_WriteString b s x20 ⟨p, a, k, hp, rfl, rfl⟩ hy1) ?_
      clear hp
      rintro Vy1 _ _ hvy1 ⟨rfl, q0, q1, rfl, p, a, k, hp, rfl, rfl⟩
      refine ⟨_, rfl, ?_⟩
      refine Exec.run tyOk 400 rfl ?_
      obtain ⟨x21, hx21, hF⟩ := bnd_some hF
      refine Exec.callS (.string ⟨⟨x21⟩⟩) rfl rfl (W_value_Encode (atI x1 x13).Val hx21) ?_
      refine Exec.run tyOk 400 rfl ?_
      obtain ⟨y2, hy2, hF⟩ := bnd_some hF
      refine Exec.callR [0, 1] (rs := [_, _]) rfl rfl rfl rfl rfl rfl (X_WriteString b y1 x21 ⟨p, a, k, hp, rfl, rfl⟩ hy2) ?_
      clear hp
      rintro Vy2 _ _ hvy2 ⟨rfl, q0, q1, rfl, p, a, k, hp, rfl, rfl⟩
      refine ⟨_, rfl, ?_⟩
      refine Exec.run tyOk 400 rfl ?_
      refine Exec.cut 2 [(3, .v (.pointer (some ⟨b, 0, none⟩))), (11, .v (.slice a2 ((x1).length) (k2))), (12, .v (.int .i64 (((x1).length : Nat) : Int))), (13, .v (.int .i64 (IntKind.i64.wrap (x13 + (1 : Int)))))] (M' := [.row (.slice (some ⟨b, 0, none⟩) 1 1) [.pointer p, .slice a (y2).length k] 102 2, .row (.slice a (y2).length k) (Lib.byteCells y2) 5 1]) rfl ⟨rfl, rfl, rfl, rfl, trivial⟩ rfl rfl rfl ?_
      exact Exec.round [(3, .v (.pointer (some ⟨b, 0, none⟩))), (11, .v (.slice a2 ((x1).length) (k2))), (12, .v (.int .i64 (((x1).length : Nat) : Int))), (13, .v (.int .i64 (IntKind.i64.wrap (x13 + (1 : Int)))))] ⟨rfl, rfl, rfl, rfl, trivial⟩ ⟨n8, Nat.lt_succ_self _, y2, p, a, k, IntKind.i64.wrap (x13 + (1 : Int)), rfl, rfl, hp, SlAt.mono h10 (hvy1.trans hvy2), hF⟩
    · skip
      refine Exec.ifF rfl hb ?_
      refine Exec.run tyOk 400 rfl ?_
      exact Exec.round [(3, .v (.pointer (some ⟨b, 0, none⟩)))] ⟨rfl, trivial⟩ ⟨s, p, a, k, rfl, rfl, hp, hF⟩

section
open Go.RowKit Go.Proofs

def ownerAll (x5 : TPlacement) : List Str → Option (List Int)
  | [] => some []
  | k :: l => bnd (F_placement_Owner x5 k) fun y => bnd (ownerAll x5 l) fun r => some (y :: r)

theorem ownerAll_app {x5 : TPlacement} : ∀ {l1 l2 : List Str} {r : List Int}, ownerAll x5 (l1 ++ l2) = some r → ∃ r1 r2, ownerAll x5 l1 = some r1 ∧ ownerAll x5 l2 = some r2 ∧ r = r1 ++ r2
  | [], l2, r, h => ⟨[], r, rfl, h, rfl⟩
  | k :: l1, l2, r, h => by
    simp only [List.cons_append, ownerAll] at h ⊢
    obtain ⟨y, hy, h⟩ := bnd_some h
    obtain ⟨q, hq, h⟩ := bnd_some h
    obtain rfl := some_inj h
    obtain ⟨r1, r2, e1, e2, rfl⟩ := ownerAll_app hq
    exact ⟨y :: r1, r2, by rw [hy, e1]; rfl, e2, rfl⟩

theorem drop_at {α : Type} [Inhabited α] (l : List α) (i : Int) (hi : 0 ≤ i ∧ i < (l.length : Int)) : l.drop i.toNat = atI l i :: l.drop (i + 1).toNat := by
  have h : i.toNat < l.length := by omega
  rw [List.drop_eq_getElem_cons h, show (i + 1).toNat = i.toNat + 1 by omega]
  congr 1
  simp [atI, List.getD_eq_getElem?_getD, h]

def mu (s : Nat) (n : Nat) (a : Act) : Nat := match a.tmps[s]? with
  | some (.int _ i) => ((n : Int) - i).toNat
  | _ => 0

theorem ItSt.mu {V : View} {w0 : World} {J : List Int → World → Prop} {nt : Nat} {L : Fr} {pre : List Int} {a : Act} {w : World} (h : ItSt V w0 J nt L pre a w) {s : Nat} {i : Int} (n : Nat) (hs : lookL L s = some (.v (.int .i64 i))) :
    Go.Proofs.YtcgmfmpfmfjmoaaGreat.mu s n a = ((n : Int) - i).toNat := by
  have h1 : a.tmps[s]? = some (.int .i64 i) := (h.lk s _ hs).1
  simp [Go.Proofs.YtcgmfmpfmfjmoaaGreat.mu, h1]

set_option maxRecDepth 100000 in
theorem X_owners1 {V : View} (x3 : List (List Str)) (x5 : TPlacement) {a4 : Option Addr} {k4 : Nat} {b0 : Nat} {a6 : Option Addr} {k6 : Nat} {b1 : Nat} (h4 : SlAt (cSl cStr) V a4 k4 x3) (hc0 : RdAt V (some ⟨b0, 0, none⟩) 0 [.slice a4 ((x3).length) (k4)])
    (h6 : SlAt cTPart V a6 k6 x5.Parts) (hc1 : RdAt V (some ⟨b1, 0, none⟩) 0 [.int .i64 (x5.Version), .slice a6 ((x5.Parts).length) (k6)]) (hm3 : x3.length < 9223372036854775807) (hm5 : ∀ l ∈ x3, l.length < 9223372036854775807) {xs : List Int} (hF : ownerAll x5 x3.flatten = some xs) (w0 : World) (hw0 : Holds V w0) :
    SeqB Tryz.prog 104 #[.pointer (some ⟨b0, 0, none⟩), .pointer (some ⟨b1, 0, none⟩)] xs w0 := by
  intro l J W hBW hJ hY h0
  have hV : Holds V W := holds_below hw0 hBW
  have e : (#[Value.func (.yield l) #[] #[]] ++ #[Value.pointer (some ⟨b0, 0, none⟩), Value.pointer (some ⟨b1, 0, none⟩)] : Array Value) = ⟨[Value.func (.yield l) #[] #[], Value.pointer (some ⟨b0, 0, none⟩), Value.pointer (some ⟨b1, 0, none⟩)]⟩ := by simp
  rw [e]
  refine (callsIn_wide (n := 0)).1 (callsIn_of_wp Tryz.func104 rfl trivial ?_)
  have s0 : ItSt V w0 J 28 [(0, .v (.func (.yield l) #[] #[])), (1, .v (.pointer (some ⟨b0, 0, none⟩))), (2, .v (.pointer (some ⟨b1, 0, none⟩)))] [] { tmps := (⟨[Value.func (.yield l) #[] #[], Value.pointer (some ⟨b0, 0, none⟩), Value.pointer (some ⟨b1, 0, none⟩)]⟩ : Array Value) ++ Array.replicate (Tryz.f104.ntmps - (⟨[Value.func (.yield l) #[] #[], Value.pointer (some ⟨b0, 0, none⟩), Value.pointer (some ⟨b1, 0, none⟩)]⟩ : Array Value).size) undef, defers := [] } W :=
    ⟨rfl, by rw [Array.size_append, Array.size_replicate]; rfl, lok_args [Value.func (.yield l) #[] #[], Value.pointer (some ⟨b0, 0, none⟩), Value.pointer (some ⟨b1, 0, none⟩)] _, hV, hBW, h0⟩
  refine wpIn_seq ?_
  refine s0.stretch (T := tyT) (fn := Tryz.f104) hJ (fun L' V' => L' = [(0, .v (.func (.yield l) #[] #[])), (2, .v (.pointer (some ⟨b1, 0, none⟩))), (8, .v (.slice a4 ((x3).length) (k4))), (9, .v (.int .i64 ((((x3).length : Nat) : Int)))), (10, .v (.int .i64 0))]) ?_ ?_
  · refine Exec.run tyOk 400 rfl ?_
    refine Exec.ld tyOk (x := .slice a4 ((x3).length) (k4)) rfl rfl hc0 rfl rfl ?_
    refine Exec.run tyOk 400 rfl ?_
    exact Exec.round [(0, .v (.func (.yield l) #[] #[])), (2, .v (.pointer (some ⟨b1, 0, none⟩))), (8, .v (.slice a4 ((x3).length) (k4))), (9, .v (.int .i64 ((((x3).length : Nat) : Int)))), (10, .v (.int .i64 0))] ⟨rfl, rfl, rfl, rfl, rfl, trivial⟩ ⟨rfl, rfl⟩
  rintro L' V' a1 w1 rfl hv1 s1
  clear s0
  show Code.wpIn _ _ _ _ _ _ _
  refine wpIn_block ?_
  refine wpIn_loop (fun a w => ∃ (i : Int) (pre r : List Int), (0 ≤ i ∧ i ≤ (x3.length : Int)) ∧ ItSt V w0 J 28 [(0, .v (.func (.yield l) #[] #[])), (2, .v (.pointer (some ⟨b1, 0, none⟩))), (8, .v (.slice a4 ((x3).length) (k4))), (9, .v (.int .i64 ((((x3).length : Nat) : Int)))), (10, .v (.int .i64 i))] pre a w ∧ xs = pre ++ r ∧ ownerAll x5 (x3.drop i.toNat).flatten = some r)
    (fun a _ => mu 10 x3.length a) ⟨0, [], xs, ⟨Int.le_refl _, by omega⟩, s1, rfl, hF⟩ ?_
  clear s1
  rintro a w ⟨i, pre, r, hi, s, hx, hr⟩
  rw [s.mu (s := 10) x3.length rfl]
  refine wpIn_seq ?_
  refine s.stretch (T := tyT) (fn := Tryz.f104) hJ (fun L' V' => L' = [(0, .v (.func (.yield l) #[] #[])), (2, .v (.pointer (some ⟨b1, 0, none⟩))), (8, .v (.slice a4 ((x3).length) (k4))), (9, .v (.int .i64 ((((x3).length : Nat) : Int)))), (10, .v (.int .i64 i)), (11, .v (.bool (decide (i < (x3.length : Int)))))]) ?_ ?_
  · refine Exec.run tyOk 400 rfl ?_
    exact Exec.round [(0, .v (.func (.yield l) #[] #[])), (2, .v (.pointer (some ⟨b1, 0, none⟩))), (8, .v (.slice a4 ((x3).length) (k4))), (9, .v (.int .i64 ((((x3).length : Nat) : Int)))), (10, .v (.int .i64 i)), (11, .v (.bool (decide (i < (x3.length : Int)))))] ⟨rfl, rfl, rfl, rfl, rfl, rfl, trivial⟩ ⟨rfl, rfl⟩
  clear s
  rintro L' V2 a2 w2 rfl hv2 s
  show Code.wpIn _ _ _ _ _ _ _
  refine wpIn_seq ?_
  refine wpIn_cond_split (s.eval (s := 11) rfl) (fun hc => ?_) (fun hc => ?_)
  case _ =>
    have hlt : i < (x3.length : Int) := by simpa using hc
    refine wpIn_skip ?_
    show Code.wpIn _ _ _ _ _ _ _
    have hd := drop_at x3 i ⟨hi.1, hlt⟩
    rw [hd, List.flatten_cons] at hr
    obtain ⟨r1, r2, hr1, hr2, rfl⟩ := ownerAll_app hr
    have hil := SlAt.get h4 (n := i) ⟨hi.1, hlt⟩
    obtain ⟨c15, hr15, hd15⟩ := hil
    obtain ⟨a16, k16, rfl, h16⟩ := hr15
    refine wpIn_seq ?_
    refine wpIn_block ?_
    refine wpIn_seq ?_
    refine s.stretch (T := tyT) (fn := Tryz.f104) hJ (fun L' V' => L' = [(0, .v (.func (.yield l) #[] #[])), (2, .v (.pointer (some ⟨b1, 0, none⟩))), (5, .v (.slice a16 (((atI x3 i)).length) (k16))), (8, .v (.slice a4 ((x3).length) (k4))), (9, .v (.int .i64 ((((x3).length : Nat) : Int)))), (10, .v (.int .i64 i))]) ?_ ?_
    · refine Exec.run tyOk 400 rfl ?_
      refine Exec.ia tyOk rfl rfl ⟨hi.1, hlt, hd15.some⟩ ?_
      refine Exec.run tyOk 400 rfl ?_
      refine Exec.ld tyOk (x := .slice a16 (((atI x3 i)).length) (k16)) rfl rfl hd15 rfl rfl ?_
      refine Exec.run tyOk 8 rfl ?_
      exact Exec.round [(0, .v (.func (.yield l) #[] #[])), (2, .v (.pointer (some ⟨b1, 0, none⟩))), (5, .v (.slice a16 (((atI x3 i)).length) (k16))), (8, .v (.slice a4 ((x3).length) (k4))), (9, .v (.int .i64 ((((x3).length : Nat) : Int)))), (10, .v (.int .i64 i))] ⟨rfl, rfl, rfl, rfl, rfl, rfl, trivial⟩ ⟨rfl, rfl⟩
    clear s
    rintro L' V3 a3 w3 rfl hv3 s
    show Code.wpIn _ _ _ _ _ _ _
    refine wpIn_seq ?_
    refine s.stretch (T := tyT) (fn := Tryz.f104) hJ (fun L' V' => L' = [(0, .v (.func (.yield l) #[] #[])), (2, .v (.pointer (some ⟨b1, 0, none⟩))), (8, .v (.slice a4 ((x3).length) (k4))), (9, .v (.int .i64 ((((x3).length : Nat) : Int)))), (10, .v (.int .i64 i)), (14, .v (.slice a16 (((atI x3 i)).length) (k16))), (15, .v (.int .i64 ((((atI x3 i).length : Nat) : Int)))), (16, .v (.int .i64 0))]) ?_ ?_
    · refine Exec.run tyOk 400 rfl ?_
      exact Exec.round [(0, .v (.func (.yield l) #[] #[])), (2, .v (.pointer (some ⟨b1, 0, none⟩))), (8, .v (.slice a4 ((x3).length) (k4))), (9, .v (.int .i64 ((((x3).length : Nat) : Int)))), (10, .v (.int .i64 i)), (14, .v (.slice a16 (((atI x3 i)).length) (k16))), (15, .v (.int .i64 ((((atI x3 i).length : Nat) : Int)))), (16, .v (.int .i64 0))] ⟨rfl, rfl, rfl, rfl, rfl, rfl, rfl, rfl, trivial⟩ ⟨rfl, rfl⟩
    clear s
    rintro L' V4 a4' w4 rfl hv4 s
    show Code.wpIn _ _ _ _ _ _ _
    refine wpIn_block ?_
    refine wpIn_loop (fun a w => ∃ (j : Int) (pre r1 : List Int), (0 ≤ j ∧ j ≤ ((atI x3 i).length : Int)) ∧ ItSt V w0 J 28 [(0, .v (.func (.yield l) #[] #[])), (2, .v (.pointer (some ⟨b1, 0, none⟩))), (8, .v (.slice a4 ((x3).length) (k4))), (9, .v (.int .i64 ((((x3).length : Nat) : Int)))), (10, .v (.int .i64 i)), (14, .v (.slice a16 (((atI x3 i)).length) (k16))), (15, .v (.int .i64 ((((atI x3 i).length : Nat) : Int)))), (16, .v (.int .i64 j))] pre a w ∧ xs = pre ++ (r1 ++ r2) ∧ ownerAll x5 ((atI x3 i).drop j.toNat) = some r1)
      (fun a _ => mu 16 (atI x3 i).length a) ⟨0, pre, r1, ⟨Int.le_refl _, by omega⟩, s, hx, hr1⟩ ?_
    clear s hx hr1
    rintro a w ⟨j, pre, r1, hj, s, hx, hr1⟩
    rw [s.mu (s := 16) (atI x3 i).length rfl]
    refine wpIn_seq ?_
    refine s.stretch (T := tyT) (fn := Tryz.f104) hJ (fun L' V' => L' = [(0, .v (.func (.yield l) #[] #[])), (2, .v (.pointer (some ⟨b1, 0, none⟩))), (8, .v (.slice a4 ((x3).length) (k4))), (9, .v (.int .i64 ((((x3).length : Nat) : Int)))), (10, .v (.int .i64 i)), (14, .v (.slice a16 (((atI x3 i)).length) (k16))), (15, .v (.int .i64 ((((atI x3 i).length : Nat) : Int)))), (16, .v (.int .i64 j)), (17, .v (.bool (decide (j < ((atI x3 i).length : Int)))))]) ?_ ?_
    · refine Exec.run tyOk 400 rfl ?_
      exact Exec.round [(0, .v (.func (.yield l) #[] #[])), (2, .v (.pointer (some ⟨b1, 0, none⟩))), (8, .v (.slice a4 ((x3).length) (k4))), (9, .v (.int .i64 ((((x3).length : Nat) : Int)))), (10, .v (.int .i64 i)), (14, .v (.slice a16 (((atI x3 i)).length) (k16))), (15, .v (.int .i64 ((((atI x3 i).length : Nat) : Int)))), (16, .v (.int .i64 j)), (17, .v (.bool (decide (j < ((atI x3 i).length : Int)))))] ⟨rfl, rfl, rfl, rfl, rfl, rfl, rfl, rfl, rfl, trivial⟩ ⟨rfl, rfl⟩
    clear s
    rintro L' V5 a5 w5 rfl hv5 s
    show Code.wpIn _ _ _ _ _ _ _
    refine wpIn_seq ?_
    refine wpIn_cond_split (s.eval (s := 17) rfl) (fun hc => ?_) (fun hc => ?_)
    case _ =>
      have hlt2 : j < ((atI x3 i).length : Int) := by simpa using hc
      refine wpIn_skip ?_
      show Code.wpIn _ _ _ _ _ _ _
      have hd2 := drop_at (atI x3 i) j ⟨hj.1, hlt2⟩
      rw [hd2, ownerAll] at hr1
      obtain ⟨y, hy, hr1⟩ := bnd_some hr1
      obtain ⟨r3, hr3, hr1⟩ := bnd_some hr1
      obtain rfl := some_inj hr1
      obtain ⟨c32, hr32, hd32⟩ := SlAt.get h16 (n := j) ⟨hj.1, hlt2⟩
      obtain rfl := hr32
      refine wpIn_seq ?_
      refine wpIn_block ?_
      refine wpIn_seq ?_
      refine s.stretch (T := tyT) (fn := Tryz.f104) hJ (fun L' V' => L' = [(0, .v (.func (.yield l) #[] #[])), (2, .v (.pointer (some ⟨b1, 0, none⟩))), (7, .v (.string ⟨⟨(atI ((atI x3 i)) j)⟩⟩)), (8, .v (.slice a4 ((x3).length) (k4))), (9, .v (.int .i64 ((((x3).length : Nat) : Int)))), (10, .v (.int .i64 i)), (14, .v (.slice a16 (((atI x3 i)).length) (k16))), (15, .v (.int .i64 ((((atI x3 i).length : Nat) : Int)))), (16, .v (.int .i64 j))]) ?_ ?_
      · refine Exec.run tyOk 400 rfl ?_
        refine Exec.ia tyOk rfl rfl ⟨hj.1, hlt2, hd32.some⟩ ?_
        refine Exec.run tyOk 400 rfl ?_
        refine Exec.ld tyOk (x := .string ⟨⟨(atI ((atI x3 i)) j)⟩⟩) rfl rfl hd32 rfl rfl ?_
        refine Exec.run tyOk 8 rfl ?_
        exact Exec.round [(0, .v (.func (.yield l) #[] #[])), (2, .v (.pointer (some ⟨b1, 0, none⟩))), (7, .v (.string ⟨⟨(atI ((atI x3 i)) j)⟩⟩)), (8, .v (.slice a4 ((x3).length) (k4))), (9, .v (.int .i64 ((((x3).length : Nat) : Int)))), (10, .v (.int .i64 i)), (14, .v (.slice a16 (((atI x3 i)).length) (k16))), (15, .v (.int .i64 ((((atI x3 i).length : Nat) : Int)))), (16, .v (.int .i64 j))] ⟨rfl, rfl, rfl, rfl, rfl, rfl, rfl, rfl, rfl, trivial⟩ ⟨rfl, rfl⟩
      clear s
      rintro L' V6 a6' w6 rfl hv6 s
      show Code.wpIn _ _ _ _ _ _ _
      refine wpIn_seq ?_
      refine s.head (T := tyT) (fn := Tryz.f104) hJ (fun L' V' => L' = [(0, .v (.func (.yield l) #[] #[])), (2, .v (.pointer (some ⟨b1, 0, none⟩))), (8, .v (.slice a4 ((x3).length) (k4))), (9, .v (.int .i64 ((((x3).length : Nat) : Int)))), (10, .v (.int .i64 i)), (14, .v (.slice a16 (((atI x3 i)).length) (k16))), (15, .v (.int .i64 ((((atI x3 i).length : Nat) : Int)))), (16, .v (.int .i64 j)), (20, .v (.func (.yield l) #[] #[])), (23, .v (.int .i64 y))]) (ops := [_, _, _, _]) (rest := [_, _]) ?_ rfl ?_
      · refine Exec.run tyOk 400 rfl ?_
        refine Exec.ld tyOk (x := .agg ⟨[.int .i64 (x5.Version), .slice a6 ((x5.Parts).length) (k6)]⟩) rfl rfl hc1 rfl rfl ?_
        refine Exec.run tyOk 400 rfl ?_
        refine Exec.callS (.int .i64 y) rfl rfl (W_placement_Owner x5 ((atI ((atI x3 i)) j)) h6 hy) ?_
        refine Exec.run tyOk 400 rfl ?_
        exact Exec.round [(0, .v (.func (.yield l) #[] #[])), (2, .v (.pointer (some ⟨b1, 0, none⟩))), (8, .v (.slice a4 ((x3).length) (k4))), (9, .v (.int .i64 ((((x3).length : Nat) : Int)))), (10, .v (.int .i64 i)), (14, .v (.slice a16 (((atI x3 i)).length) (k16))), (15, .v (.int .i64 ((((atI x3 i).length : Nat) : Int)))), (16, .v (.int .i64 j)), (20, .v (.func (.yield l) #[] #[])), (23, .v (.int .i64 y))] ⟨rfl, rfl, rfl, rfl, rfl, rfl, rfl, rfl, rfl, rfl, trivial⟩ ⟨rfl, rfl⟩
      clear s
      rintro L' V7 a7 w7 rfl hv7 s
      refine s.yield (l := l) (x := y) (d := 24) (g := 20) (ar := 23) rfl rfl rfl (by decide) rfl rfl (hY pre y (r3 ++ r2) w7 (by rw [hx]; simp) s.j s.bl) hw0 ?_
      clear s
      intro a8 w8 s
      refine s.ops (T := tyT) (fn := Tryz.f104) hJ (fun L' V' => L' = [(0, .v (.func (.yield l) #[] #[])), (2, .v (.pointer (some ⟨b1, 0, none⟩))), (8, .v (.slice a4 ((x3).length) (k4))), (9, .v (.int .i64 ((((x3).length : Nat) : Int)))), (10, .v (.int .i64 i)), (14, .v (.slice a16 (((atI x3 i)).length) (k16))), (15, .v (.int .i64 ((((atI x3 i).length : Nat) : Int)))), (16, .v (.int .i64 j)), (25, .v (.bool false))]) ?_ ?_
      · refine Exec.run tyOk 400 rfl ?_
        exact Exec.round [(0, .v (.func (.yield l) #[] #[])), (2, .v (.pointer (some ⟨b1, 0, none⟩))), (8, .v (.slice a4 ((x3).length) (k4))), (9, .v (.int .i64 ((((x3).length : Nat) : Int)))), (10, .v (.int .i64 i)), (14, .v (.slice a16 (((atI x3 i)).length) (k16))), (15, .v (.int .i64 ((((atI x3 i).length : Nat) : Int)))), (16, .v (.int .i64 j)), (25, .v (.bool false))] ⟨rfl, rfl, rfl, rfl, rfl, rfl, rfl, rfl, rfl, trivial⟩ ⟨rfl, rfl⟩
      clear s
      rintro L' V9 a9 w9 rfl hv9 s
      show Code.wpIn _ _ _ _ _ _ _
      refine wpIn_cond_false (s.eval (s := 25) rfl) ?_
      refine wpIn_skip ?_
      show Code.wpIn _ _ _ _ _ _ _
      refine s.stretch (T := tyT) (fn := Tryz.f104) hJ (fun L' V' => L' = [(0, .v (.func (.yield l) #[] #[])), (2, .v (.pointer (some ⟨b1, 0, none⟩))), (8, .v (.slice a4 ((x3).length) (k4))), (9, .v (.int .i64 ((((x3).length : Nat) : Int)))), (10, .v (.int .i64 i)), (14, .v (.slice a16 (((atI x3 i)).length) (k16))), (15, .v (.int .i64 ((((atI x3 i).length : Nat) : Int)))), (16, .v (.int .i64 (IntKind.i64.wrap (j + (1 : Int)))))]) ?_ ?_
      · refine Exec.run tyOk 400 rfl ?_
        exact Exec.round [(0, .v (.func (.yield l) #[] #[])), (2, .v (.pointer (some ⟨b1, 0, none⟩))), (8, .v (.slice a4 ((x3).length) (k4))), (9, .v (.int .i64 ((((x3).length : Nat) : Int)))), (10, .v (.int .i64 i)), (14, .v (.slice a16 (((atI x3 i)).length) (k16))), (15, .v (.int .i64 ((((atI x3 i).length : Nat) : Int)))), (16, .v (.int .i64 (IntKind.i64.wrap (j + (1 : Int)))))] ⟨rfl, rfl, rfl, rfl, rfl, rfl, rfl, rfl, trivial⟩ ⟨rfl, rfl⟩
      clear s
      rintro L' V10 a10 w10 rfl hv10 s
      have hm := hm5 (atI x3 i) (by
        have := List.mem_of_mem_drop (i := i.toNat) (l := x3) (a := atI x3 i) (by rw [hd]; simp)
        exact this)
      have hw : IntKind.i64.wrap (j + (1 : Int)) = j + 1 := w64 (by omega) (by omega)
      rw [hw] at s
      refine ⟨⟨j + 1, pre ++ [y], r3, ⟨by omega, by omega⟩, s, by rw [hx]; simp, hr3⟩, ?_⟩
      rw [s.mu (s := 16) (atI x3 i).length rfl]
      omega
    case _ =>
      have hge : ((atI x3 i).length : Int) ≤ j := by simpa using hc
      refine wpIn_exit ?_
      have he : j.toNat = (atI x3 i).length := by omega
      rw [he, List.drop_length, ownerAll] at hr1
      obtain rfl := some_inj hr1
      show Code.wpIn _ _ _ _ _ _ _
      refine s.stretch (T := tyT) (fn := Tryz.f104) hJ (fun L' V' => L' = [(0, .v (.func (.yield l) #[] #[])), (2, .v (.pointer (some ⟨b1, 0, none⟩))), (8, .v (.slice a4 ((x3).length) (k4))), (9, .v (.int .i64 ((((x3).length : Nat) : Int)))), (10, .v (.int .i64 (IntKind.i64.wrap (i + (1 : Int)))))]) ?_ ?_
      · refine Exec.run tyOk 400 rfl ?_
        exact Exec.round [(0, .v (.func (.yield l) #[] #[])), (2, .v (.pointer (some ⟨b1, 0, none⟩))), (8, .v (.slice a4 ((x3).length) (k4))), (9, .v (.int .i64 ((((x3).length : Nat) : Int)))), (10, .v (.int .i64 (IntKind.i64.wrap (i + (1 : Int)))))] ⟨rfl, rfl, rfl, rfl, rfl, trivial⟩ ⟨rfl, rfl⟩
      clear s
      rintro L' V10 a10 w10 rfl hv10 s
      have hw : IntKind.i64.wrap (i + (1 : Int)) = i + 1 := w64 (by omega) (by omega)
      rw [hw] at s
      refine ⟨⟨i + 1, pre, r2, ⟨by omega, by omega⟩, s, by rw [hx]; simp, hr2⟩, ?_⟩
      rw [s.mu (s := 10) x3.length rfl]
      omega
  case _ =>
    have hge : (x3.length : Int) ≤ i := by simpa using hc
    refine wpIn_exit ?_
    have he : i.toNat = x3.length := by omega
    rw [he, List.drop_length, List.flatten_nil, ownerAll] at hr
    obtain rfl := some_inj hr
    rw [List.append_nil] at hx
    subst hx
    show bodyPost Tryz.prog Tryz.f104 (fun e W' => (∃ v, e = .returned v) ∧ J _ W') .normal _ _
    exact bodyPost_end (v := .tuple #[]) (by simp [results, show Tryz.f104.results = #[] from rfl]) s.df ⟨⟨_, rfl⟩, s.j⟩

/-! ### slices.AppendSeq, Collect, Sorted at []int -/

def seqRen : Go.Shelf.Ren := ⟨fun | 11 => 162 | n => n, fun | 0 => 0 | 24 => 41 | 26 => 3 | 28 => 83 | 33 => 72 | n => n, fun n => n⟩
theorem seqLays : Go.Proofs.SlLaysZI.n11 Tryz.prog seqRen := {
  mixed := by kernel_rfl
  f11 := ⟨ "slices.AppendSeq[[]int,int]", by kernel_rfl, Tryz.func162.trans (congrArg some (by kernel_rfl))⟩
  t0 := Tryz.underlying0
  a0 := Tryz.isAgg0
  z0 := Tryz.sizeOf0
  v0 := Tryz.zeroValue0
  t24 := Tryz.underlying41
  a24 := Tryz.isAgg41
  z24 := Tryz.sizeOf41
  v24 := Tryz.zeroValue41
  t26 := Tryz.underlying3
  a26 := Tryz.isAgg3
  z26 := Tryz.sizeOf3
  v26 := Tryz.zeroValue3
  t28 := Tryz.underlying83
  a28 := Tryz.isAgg83
  z28 := Tryz.sizeOf83
  v28 := Tryz.zeroValue83
  i26 := by kernel_rfl }

theorem X_AppendSeq {V : View} {v : Value} {xs : List Int} (hs : SeqAt Tryz.prog V v xs) (hNb : xs.length * 8 ≤ 140737488355328) :
    SpecM Tryz.prog 162 [.slice none 0 0, v] ⟨.slice none 0 0, [], 3, 1⟩ V (fun V' r r' => V' = V ∧ ∃ a k, r = .slice a xs.length k ∧ r' = ⟨.slice a xs.length k, xs.map (Value.int .i64), 3, 1⟩) :=
  appendSeq_specM seqLays ⟨_, Tryz.func162, by kernel_rfl, by kernel_rfl⟩ hs hNb

set_option maxRecDepth 100000 in
theorem X_Collect {V : View} {v : Value} {xs : List Int} (hs : SeqAt Tryz.prog V v xs) (hNb : xs.length * 8 ≤ 140737488355328) :
    SpecM Tryz.prog 139 [v] ⟨.slice none 0 0, [], 3, 1⟩ V (fun V' r r' => V' = V ∧ ∃ a k, r = .slice a xs.length k ∧ r' = ⟨.slice a xs.length k, xs.map (Value.int .i64), 3, 1⟩) := by
  refine SpecM.enter (T := tyT) Tryz.func139 rfl (by kernel_rfl) rfl rfl rfl ?_
  refine Exec.run tyOk 400 rfl ?_
  refine Exec.callM 0 rfl rfl rfl rfl (X_AppendSeq hs hNb) ?_
  rintro VV _ _ _ ⟨hVV, a, k, rfl, rfl⟩
  have hVV := hVV.symm
  subst hVV
  refine ⟨_, rfl, ?_⟩
  refine Exec.run tyOk 400 rfl ?_
  refine Exec.ret tyOk rfl rfl ?_
  dsimp only
  exact RowEnd.at 0 rfl ⟨rfl, a, k, rfl, rfl⟩

set_option maxRecDepth 100000 in
theorem X_Sorted {V : View} {v : Value} {xs : List Int} (hs : SeqAt Tryz.prog V v xs) (hNb : xs.length * 8 ≤ 140737488355328) :
    SpecM Tryz.prog 103 [v] ⟨.slice none 0 0, [], 3, 1⟩ V (fun V' r r' => V' = V ∧ ∃ a k, r = .slice a xs.length k ∧ r' = ⟨.slice a xs.length k, (sortL xs).map (Value.int .i64), 3, 1⟩) := by
  refine SpecM.enter (T := tyT) Tryz.func103 rfl (by kernel_rfl) rfl rfl rfl ?_
  refine Exec.run tyOk 400 rfl ?_
  refine Exec.callM 0 rfl rfl rfl rfl (X_Collect hs hNb) ?_
  rintro VV _ _ _ ⟨hVV, a, k, rfl, rfl⟩
  have hVV := hVV.symm
  subst hVV
  refine ⟨_, rfl, ?_⟩
  refine Exec.run tyOk 400 rfl ?_
  refine Exec.callM 0 rfl rfl rfl rfl (sortI_row (RowRep.ofInts xs) (fun cs e => by subst e; exact (sortI_specM ⟨_, rfl, by kernel_rfl, by kernel_rfl⟩ Tryz.slices_Sort_int Tryz.slices_Sort_int_none (by omega)))) ?_
  rintro VV _ _ _ ⟨rfl, hVV, rfl⟩
  have hVV := hVV.symm
  subst hVV
  refine ⟨_, rfl, ?_⟩
  refine Exec.run tyOk 400 rfl ?_
  refine Exec.ret tyOk rfl rfl ?_
  dsimp only
  exact RowEnd.at 0 rfl ⟨rfl, a, k, rfl, rfl⟩

theorem sortL_len (l : List Int) : (sortL l).length = l.length := by simp [sortL]

set_option maxRecDepth 100000 in
theorem X_different {V : View} {v : Value} {xs : List Int} (hs : SeqAt Tryz.prog V v xs) (hNb : xs.length * 8 ≤ 140737488355328) :
    Spec Tryz.prog 53 [v] V (fun V' r => ∃ (a : Option Addr) (k : Nat), r = .slice a (compactL (sortL xs)).length k ∧ SlAt (cInt .i64) V' a k (compactL (sortL xs))) := by
  refine Spec.enter (T := tyT) Tryz.func53 rfl (by kernel_rfl) rfl rfl rfl ?_
  refine Exec.run tyOk 400 rfl ?_
  refine Exec.row0 3 1 rfl ?_
  refine Exec.callM 0 rfl rfl rfl rfl (X_Sorted hs hNb) ?_
  rintro VV _ _ _ ⟨hVV, a, k, rfl, rfl⟩
  have hVV := hVV.symm
  subst hVV
  refine ⟨_, rfl, ?_⟩
  refine Exec.run tyOk 400 rfl ?_
  refine Exec.callM 0 rfl rfl rfl rfl (compactI_row (RowRep.ofInts (sortL xs)) (fun cs e => by subst e; exact (compactI_specM ⟨_, rfl, by kernel_rfl, by kernel_rfl⟩ Tryz.slices_Compact_int Tryz.slices_Compact_int_empty))) ?_
  rintro VV _ _ _ ⟨rfl, hVV, rfl⟩
  have hVV := hVV.symm
  subst hVV
  refine ⟨_, rfl, ?_⟩
  have h12 : RowRep (cInt .i64) V (compactL (sortL xs)) ((compactL (sortL xs)).map (Value.int .i64)) := RowRep.ofInts _
  refine Exec.run tyOk 400 rfl ?_
  refine Exec.frz 0 rfl rfl rfl (fun V13 hv13 hd13 hn13 => ?_)
  have hz13 := RowRep.slat h12 hv13 hd13 hn13
  exact Exec.ret tyOk rfl rfl ⟨_, _, rfl, hz13⟩

/-! ### route.owners -/

def ownersF (x1 : TPlacement) (x3 : List (List Str)) : Option (List Int) := ownerAll x1 x3.flatten

set_option maxRecDepth 100000 in
theorem X_owners {V : View} (x1 : TPlacement) (x3 : List (List Str)) {a2 : Option Addr} {k2 : Nat} {a4 : Option Addr} {k4 : Nat} (h2 : SlAt cTPart V a2 k2 x1.Parts) (h4 : SlAt (cSl cStr) V a4 k4 x3)
    (hm3 : x3.length < 9223372036854775807) (hm5 : ∀ l ∈ x3, l.length < 9223372036854775807) {xs : List Int} (hF : ownersF x1 x3 = some xs) :
    Spec Tryz.prog 54 [.agg ⟨[.int .i64 (x1.Version), .slice a2 ((x1.Parts).length) (k2)]⟩, .slice a4 ((x3).length) (k4)] V (fun V' v => SeqAt Tryz.prog V' v xs) := by
  refine Spec.enter (T := tyT) Tryz.func54 rfl (by kernel_rfl) rfl rfl rfl ?_
  refine Exec.run tyOk 400 rfl ?_
  refine Exec.openB 0 rfl rfl rfl rfl (fun _ => rfl) (fun _ => rfl) (fun V4 b4 hv4 hd4 => ?_)
  have h5 := SlAt.mono h2 hv4
  have h6 := SlAt.mono h4 hv4
  refine Exec.openB 1 rfl rfl rfl rfl (fun _ => rfl) (fun _ => rfl) (fun V5 b5 hv5 hd5 => ?_)
  have h7 := SlAt.mono h5 hv5
  have h8 := SlAt.mono h6 hv5
  have hd6 := RdAt.mono hd4 hv5
  refine Exec.mkf rfl rfl ?_
  refine Exec.run tyOk 400 rfl ?_
  refine Exec.ret tyOk rfl rfl ⟨_, _, rfl, fun args w => ?_, fun w hw => X_owners1 x3 x1 h8 hd5 h7 hd6 hm3 hm5 hF w hw⟩
  exact enters_of Tryz.func104 (by kernel_rfl) rfl args w


def F_route_Nodes (x1 : TPlacement) (x3 : TFootprint) : Option (List Int) :=
  bnd (F_route_valid x1 x3) fun x6 => cond (!x6) (some []) (cond x3.All (F_placement_Nodes x1)
    (req (x3.Reads.length + x3.Writes.length ≤ 17592186044416) (bnd (ownersF x1 [x3.Reads, x3.Writes]) fun x8 => some (compactL (sortL x8)))))

theorem ownerAll_len {x5 : TPlacement} : ∀ {l : List Str} {r : List Int}, ownerAll x5 l = some r → r.length = l.length
  | [], r, h => by obtain rfl := some_inj h; rfl
  | k :: l, r, h => by
    simp only [ownerAll] at h
    obtain ⟨y, hy, h⟩ := bnd_some h
    obtain ⟨q, hq, h⟩ := bnd_some h
    obtain rfl := some_inj h
    simp [ownerAll_len hq]

set_option maxRecDepth 100000 in
theorem W_route_Nodes {V : View} (x1 : TPlacement) (x3 : TFootprint) {a2 : Option Addr} {k2 : Nat} {a4 : Option Addr} {k4 : Nat} {a5 : Option Addr} {k5 : Nat} (h2 : SlAt cTPart V a2 k2 x1.Parts) (h4 : SlAt cStr V a4 k4 x3.Reads) (h5 : SlAt cStr V a5 k5 x3.Writes) {r : List Int} (hF : F_route_Nodes x1 x3 = some r) :
    Spec Tryz.prog 17 [.agg ⟨[.int .i64 (x1.Version), .slice a2 ((x1.Parts).length) (k2)]⟩, .agg ⟨[.bool (x3.All), .slice a4 ((x3.Reads).length) (k4), .slice a5 ((x3.Writes).length) (k5)]⟩] V (fun V' v => ∃ (a29 : Option Addr) (k29 : Nat), v = .slice a29 ((r).length) (k29) ∧ SlAt (cInt .i64) V' a29 k29 r) := by
  unfold F_route_Nodes at hF
  refine Spec.enter (T := tyT) Tryz.func17 rfl (by kernel_rfl) rfl rfl rfl ?_
  refine Exec.run tyOk 400 rfl ?_
  obtain ⟨x6, hx6, hF⟩ := bnd_some hF
  refine Exec.callS (.bool (x6)) rfl rfl (W_route_valid x1 x3 h2 h4 h5 hx6) ?_
  refine Exec.run tyOk 400 rfl ?_
  rcases cond_some hF with ⟨hb, hF⟩ | ⟨hb, hF⟩
  · skip
    refine Exec.ifT rfl hb ?_
    refine Exec.run tyOk 400 rfl ?_
    obtain rfl := some_inj hF
    exact Exec.ret tyOk rfl rfl ⟨_, _, rfl, SlAt.nil⟩
  · skip
    refine Exec.ifF rfl hb ?_
    refine Exec.run tyOk 400 rfl ?_
    rcases cond_some hF with ⟨hb, hF⟩ | ⟨hb, hF⟩
    · skip
      refine Exec.ifT rfl hb ?_
      refine Exec.run tyOk 400 rfl ?_
      refine Exec.call rfl rfl (W_placement_Nodes x1 h2 hF) ?_
      rintro V9 _ hv9 ⟨a8, k8, rfl, h8⟩
      refine Exec.run tyOk 400 rfl ?_
      exact Exec.ret tyOk rfl rfl ⟨_, _, rfl, h8⟩
    · skip
      refine Exec.ifF rfl hb ?_
      refine Exec.run tyOk 400 rfl ?_
      obtain ⟨q7, hF⟩ := req_some hF
      obtain ⟨x8, hx8, hF⟩ := bnd_some hF
      refine Exec.bsV tyOk rfl rfl rfl rfl rfl (fun V9 a9 hv9 hd9 => ?_)
      have h9 : SlAt (cSl cStr) V9 (some a9) 2 ([x3.Reads, x3.Writes] : List (List Str)) := RowRep.slat (c := (cSl cStr)) (V := V9) (cs := [.slice a4 ((x3.Reads).length) (k4), .slice a5 ((x3.Writes).length) (k5)]) ⟨_, _, rfl, ⟨_, _, rfl, (SlAt.mono h4 hv9)⟩, ⟨_, _, rfl, ⟨_, _, rfl, (SlAt.mono h5 hv9)⟩, rfl⟩⟩ (VLe.refl _) (fun _ => hd9) (by simp)
      have h10 := SlAt.mono h2 hv9
      refine Exec.run tyOk 400 rfl ?_
      refine Exec.call rfl rfl (X_owners x1 [x3.Reads, x3.Writes] h10 h9 (by simp) (by simp; omega) hx8) ?_
      rintro V11 v11 hv11 h11
      refine Exec.run tyOk 400 rfl ?_
      refine Exec.call rfl rfl (X_different h11 (by have := ownerAll_len hx8; simp at this; omega)) ?_
      rintro V12 _ hv12 ⟨a12, k12, rfl, h12⟩
      refine Exec.run tyOk 400 rfl ?_
      obtain rfl := some_inj hF
      exact Exec.ret tyOk rfl rfl ⟨_, _, rfl, h12⟩

end

def F_exchange_Complete_L1 (x12 : List Int) (x8 : List TMail) (x6 : Int) (x7 : Int) (J19 : Option Bool) : Nat → Int → Option Bool
  | 0, _ => none
  | n103 + 1, x102 => (cond (decide (x102 < (((x12).length : Nat) : Int))) (req (0 ≤ x102 ∧ x102 < ((x12).length : Int)) (bnd (F_slices_ContainsFunc_api_Mail_api_Mail x8 (fun y0 => F_exchange_Complete_1 y0 x6 ((atI x12 x102)) x7)) fun x119 => (cond (!x119) (some false) (F_exchange_Complete_L1 x12 x8 x6 x7 J19 n103 ((IntKind.i64.wrap (x102 + (1 : Int)))))))) J19)

def F_exchange_Complete (x1 : TPlacement) (x3 : TFootprint) (x6 : Int) (x7 : Int) (x8 : List TMail) : Option Bool :=
  (bnd (F_placement_Valid x1) fun x10 => (bnd (gcall (((!x10)) == false) (F_footprint_Valid x3)) fun x11 => (cond ((!x10) || (!x11)) (some false) (bnd (F_route_Nodes x1 x3) fun x12 => (jn ((some true)) (fun J19 => (F_exchange_Complete_L1 x12 x8 x6 x7 J19 (((((x12).length : Nat) : Int)).toNat + 1) ((0 : Int)))))))))

set_option maxRecDepth 100000 in
theorem W_exchange_Complete {V : View} (x1 : TPlacement) (x3 : TFootprint) (x6 : Int) (x7 : Int) (x8 : List TMail) {a2 : Option Addr} {k2 : Nat} {a4 : Option Addr} {k4 : Nat} {a5 : Option Addr} {k5 : Nat} {a9 : Option Addr} {k9 : Nat} (h2 : SlAt cTPart V a2 k2 x1.Parts) (h4 : SlAt cStr V a4 k4 x3.Reads) (h5 : SlAt cStr V a5 k5 x3.Writes) (h9 : SlAt cTMail V a9 k9 x8) {r : Bool} (hF : F_exchange_Complete x1 x3 x6 x7 x8 = some r) :
    Spec Tryz.prog 19 [.agg ⟨[.int .i64 (x1.Version), .slice a2 ((x1.Parts).length) (k2)]⟩, .agg ⟨[.bool (x3.All), .slice a4 ((x3.Reads).length) (k4), .slice a5 ((x3.Writes).length) (k5)]⟩, .int .i64 (x6), .int .i64 (x7), .slice a9 ((x8).length) (k9)] V (fun _ v => v = .bool (r)) := by
  unfold F_exchange_Complete at hF
  refine Spec.enter (T := tyT) Tryz.func19 rfl (by kernel_rfl) rfl rfl rfl ?_
  refine Exec.run tyOk 400 rfl ?_
  obtain ⟨x10, hx10, hF⟩ := bnd_some hF
  refine Exec.callS (.bool (x10)) rfl rfl (W_placement_Valid x1 h2 hx10) ?_
  refine Exec.run tyOk 400 rfl ?_
  obtain ⟨x11, hx11, hF⟩ := bnd_some hF
  refine Exec.callS (.bool (x11)) rfl rfl (fun gg0 => W_footprint_Valid x3 h4 h5 (gcall_some hx11 (gd1_of gg0))) ?_
  refine Exec.run tyOk 400 rfl ?_
  rcases cond_some hF with ⟨hb, hF⟩ | ⟨hb, hF⟩
  · skip
    refine Exec.ifT rfl hb ?_
    refine Exec.run tyOk 400 rfl ?_
    obtain rfl := some_inj hF
    exact Exec.ret tyOk rfl rfl rfl
  · skip
    refine Exec.ifF rfl hb ?_
    refine Exec.run tyOk 400 rfl ?_
    obtain ⟨x12, hx12, hF⟩ := bnd_some hF
    refine Exec.call rfl rfl (W_route_Nodes x1 x3 h2 h4 h5 hx12) ?_
    rintro V14 _ hv14 ⟨a13, k13, rfl, h13⟩
    have h15 := SlAt.mono h2 hv14
    have h16 := SlAt.mono h4 hv14
    have h17 := SlAt.mono h5 hv14
    have h18 := SlAt.mono h9 hv14
    refine Exec.run tyOk 3 rfl ?_
    obtain ⟨J19, hJ19, hF⟩ := jn_some hF
    refine Exec.seam (fun L' V' M' => L' = [] ∧ M' = [] ∧ J19 = some r) rfl ?_ ?_
    · rintro L' V20 M' ⟨rfl, rfl, hF⟩
      subst hJ19
      refine Exec.run tyOk 400 rfl ?_
      obtain rfl := some_inj hF
      exact Exec.ret tyOk rfl rfl rfl
    · skip
      refine Exec.run tyOk 400 rfl ?_
      refine Exec.fixA 2 (n := 1) (sz := 1) rfl rfl rfl rfl rfl (fun _ => rfl) (fun _ => rfl) (fun b58 => ?_)
      refine Exec.frz 2 rfl rfl rfl (fun V58 hv58 hdx58 _ => ?_)
      have hd58 := hdx58 (by simp)
      have h59 := SlAt.mono h15 hv58
      have h60 := SlAt.mono h16 hv58
      have h61 := SlAt.mono h17 hv58
      have h62 := SlAt.mono h18 hv58
      have h63 := SlAt.mono h13 hv58
      refine Exec.fixA 3 (n := 1) (sz := 1) rfl rfl rfl rfl rfl (fun _ => rfl) (fun _ => rfl) (fun b95 => ?_)
      refine Exec.frz 3 rfl rfl rfl (fun V95 hv95 hdx95 _ => ?_)
      have hd95 := hdx95 (by simp)
      have h96 := SlAt.mono h59 hv95
      have h97 := SlAt.mono h60 hv95
      have h98 := SlAt.mono h61 hv95
      have h99 := SlAt.mono h62 hv95
      have h100 := RdAt.mono hd58 hv95
      have h101 := SlAt.mono h63 hv95
      refine Exec.cut 0 [(4, .v (.slice a9 ((x8).length) (k9))), (7, .v (.pointer (some ⟨b58, 0, none⟩))), (8, .v (.pointer (some ⟨b95, 0, none⟩))), (24, .v (.slice a13 ((x12).length) (k13))), (25, .v (.int .i64 ((((x12).length : Nat) : Int)))), (26, .v (.int .i64 ((0 : Int))))] (M' := []) rfl ⟨rfl, rfl, rfl, rfl, rfl, rfl, trivial⟩ rfl rfl rfl ?_
      refine Exec.loop (fun n103 L' V' M' => ∃ (x102 : Int), L' = [(4, .v (.slice a9 ((x8).length) (k9))), (7, .v (.pointer (some ⟨b58, 0, none⟩))), (8, .v (.pointer (some ⟨b95, 0, none⟩))), (24, .v (.slice a13 ((x12).length) (k13))), (25, .v (.int .i64 ((((x12).length : Nat) : Int)))), (26, .v (.int .i64 (x102)))] ∧ M' = [] ∧ SlAt cTMail V' a9 k9 x8 ∧ RdAt V' (some ⟨b58, 0, none⟩) 0 [.int .i64 (x6)] ∧ RdAt V' (some ⟨b95, 0, none⟩) 0 [.int .i64 (x7)] ∧ SlAt (cInt .i64) V' a13 k13 x12 ∧ F_exchange_Complete_L1 x12 x8 x6 x7 J19 n103 x102 = some r) ⟨(((((x12).length : Nat) : Int)).toNat + 1), [(4, .v (.slice a9 ((x8).length) (k9))), (7, .v (.pointer (some ⟨b58, 0, none⟩))), (8, .v (.pointer (some ⟨b95, 0, none⟩))), (24, .v (.slice a13 ((x12).length) (k13))), (25, .v (.int .i64 ((((x12).length : Nat) : Int)))), (26, .v (.int .i64 ((0 : Int))))], ⟨rfl, rfl, rfl, rfl, rfl, rfl, trivial⟩, (0 : Int), rfl, rfl, h99, h100, hd95, h101, hF⟩ ?_
      rintro n103 L' V104 M' ⟨x102, rfl, rfl, h105, h106, h107, h108, hF⟩
      rcases n103 with _ | n103
      · exact absurd hF (by simp [F_exchange_Complete_L1])
      rw [F_exchange_Complete_L1] at hF
      refine Exec.run tyOk 400 rfl ?_
      rcases cond_some hF with ⟨hb, hF⟩ | ⟨hb, hF⟩
      · skip
        refine Exec.ifT rfl hb ?_
        refine Exec.run tyOk 400 rfl ?_
        obtain ⟨q109, hF⟩ := req_some hF
        obtain ⟨c110, hr110, hd110⟩ := SlAt.get h108 q109
        obtain rfl := hr110
        refine Exec.ia tyOk rfl rfl ⟨q109.1, q109.2, hd110.some⟩ ?_
        refine Exec.run tyOk 400 rfl ?_
        refine Exec.ld tyOk (x := .int .i64 ((atI x12 x102))) rfl rfl hd110 rfl rfl ?_
        refine Exec.run tyOk 400 rfl ?_
        refine Exec.openB 0 rfl rfl rfl rfl (fun _ => rfl) (fun _ => rfl) (fun V111 b111 hv111 hd111 => ?_)
        have h112 := SlAt.mono h105 hv111
        have h113 := RdAt.mono h106 hv111
        have h114 := RdAt.mono h107 hv111
        have h115 := SlAt.mono h108 hv111
        refine Exec.mkf rfl rfl ?_
        refine Exec.run tyOk 400 rfl ?_
        obtain ⟨x119, hx119, hF⟩ := bnd_some hF
        refine Exec.callS (.bool (x119)) rfl rfl (W_slices_ContainsFunc_api_Mail_api_Mail x8 (fun y0 => F_exchange_Complete_1 y0 x6 ((atI x12 x102)) x7) h112 (fun V' hv y0 _ r hrp hr => by obtain ⟨_, _, _, _, rfl, s0, s1⟩ := hrp; exact W_exchange_Complete_1 y0 x6 ((atI x12 x102)) x7 s0 s1 (RdAt.mono h113 hv) (RdAt.mono hd111 hv) (RdAt.mono h114 hv) hr) hx119) ?_
        refine Exec.run tyOk 400 rfl ?_
        rcases cond_some hF with ⟨hb, hF⟩ | ⟨hb, hF⟩
        · skip
          refine Exec.ifT rfl hb ?_
          refine Exec.run tyOk 400 rfl ?_
          obtain rfl := some_inj hF
          exact Exec.ret tyOk rfl rfl rfl
        · skip
          refine Exec.ifF rfl hb ?_
          refine Exec.run tyOk 400 rfl ?_
          refine Exec.cut 0 [(4, .v (.slice a9 ((x8).length) (k9))), (7, .v (.pointer (some ⟨b58, 0, none⟩))), (8, .v (.pointer (some ⟨b95, 0, none⟩))), (24, .v (.slice a13 ((x12).length) (k13))), (25, .v (.int .i64 ((((x12).length : Nat) : Int)))), (26, .v (.int .i64 ((IntKind.i64.wrap (x102 + (1 : Int))))))] (M' := []) rfl ⟨rfl, rfl, rfl, rfl, rfl, rfl, trivial⟩ rfl rfl rfl ?_
          exact Exec.round [(4, .v (.slice a9 ((x8).length) (k9))), (7, .v (.pointer (some ⟨b58, 0, none⟩))), (8, .v (.pointer (some ⟨b95, 0, none⟩))), (24, .v (.slice a13 ((x12).length) (k13))), (25, .v (.int .i64 ((((x12).length : Nat) : Int)))), (26, .v (.int .i64 ((IntKind.i64.wrap (x102 + (1 : Int))))))] ⟨rfl, rfl, rfl, rfl, rfl, rfl, trivial⟩ ⟨n103, Nat.lt_succ_self _, (IntKind.i64.wrap (x102 + (1 : Int))), rfl, rfl, h112, h113, h114, h115, hF⟩
      · skip
        refine Exec.ifF rfl hb ?_
        refine Exec.run tyOk 400 rfl ?_
        exact Exec.round [] trivial ⟨rfl, rfl, hF⟩

def F_exchange_Collect_L1 (x7 : List TMail) (J15 : (List TPair) → Option (List TPair × Int)) : Nat → (List TPair) → Int → Option (List TPair × Int)
  | 0, _, _ => none
  | n59 + 1, x56, x58 => (cond (decide (x58 < (((x7).length : Nat) : Int))) (req (0 ≤ x58 ∧ x58 < ((x7).length : Int)) (req (0 ≤ (0 : Int) ∧ (0 : Int) ≤ x58 ∧ x58 ≤ ((x7).length : Int)) (bnd (F_slices_ContainsFunc_api_Mail_api_Mail (((x7.take (x58).toNat).drop ((0 : Int)).toNat)) (fun y0 => F_exchange_Collect_2 y0 ((atI x7 x58)))) fun x77 => (cond x77 (some (([] : List TPair), (8 : Int))) (bnd (F_state_Union x56 ((atI x7 x58).Pairs)) fun x78 => (cond (x78.2 != (0 : Int)) (some (([] : List TPair), (8 : Int))) (F_exchange_Collect_L1 x7 J15 n59 x78.1 ((IntKind.i64.wrap (x58 + (1 : Int))))))))))) (J15 x56))

def F_exchange_Collect_L2 (x7 : List TMail) (J11 : Option (List TPair × Int)) : Nat → Int → Option (List TPair × Int)
  | 0, _ => none
  | n90 + 1, x89 => (cond (decide (x89 < (((x7).length : Nat) : Int))) (req (0 ≤ x89 ∧ x89 < ((x7).length : Int)) (bnd (F_state_Valid ((atI x7 x89).Pairs)) fun x97 => (cond (!x97) (some (([] : List TPair), (1 : Int))) (F_exchange_Collect_L2 x7 J11 n90 ((IntKind.i64.wrap (x89 + (1 : Int)))))))) J11)

def F_exchange_Collect_L3 (x3 : List TMail) (x1 : Int) (x2 : Int) (J8 : (List TMail) → Option (List TPair × Int)) : Nat → (List TMail) → Int → Option (List TPair × Int)
  | 0, _, _ => none
  | n101 + 1, x99, x100 => (cond (decide (x100 < (((x3).length : Nat) : Int))) (req (0 ≤ x100 ∧ x100 < ((x3).length : Int)) (bnd (gcall (((((atI x3 x100).Txn == x1) && ((atI x3 x100).To == x2))) == true) (F_slices_ContainsFunc_api_Mail_api_Mail x99 (fun y0 => F_exchange_Collect_1 y0 ((atI x3 x100))))) fun x116 => (jn (fun (x118 : List TMail) => (F_exchange_Collect_L3 x3 x1 x2 J8 n101 x118 ((IntKind.i64.wrap (x100 + (1 : Int)))))) (fun J119 => (cond ((((atI x3 x100).Txn == x1) && ((atI x3 x100).To == x2)) && (!x116)) (req (((x99 ++ [(atI x3 x100)])).length * 72 ≤ 140737488355328) (J119 ((x99 ++ [(atI x3 x100)])))) (J119 x99)))))) (J8 x99))

def F_exchange_Collect (x1 : Int) (x2 : Int) (x3 : List TMail) : Option (List TPair × Int) :=
  (jn (fun (x7 : List TMail) => (cond ((((x7).length : Nat) : Int) == (0 : Int)) (some (([] : List TPair), (9 : Int))) (jn ((jn (fun (x13 : List TPair) => (some (x13, (0 : Int)))) (fun J15 => (F_exchange_Collect_L1 x7 J15 (((((x7).length : Nat) : Int)).toNat + 1) (([] : List TPair)) ((0 : Int)))))) (fun J11 => (F_exchange_Collect_L2 x7 J11 (((((x7).length : Nat) : Int)).toNat + 1) ((0 : Int))))))) (fun J8 => (F_exchange_Collect_L3 x3 x1 x2 J8 (((((x3).length : Nat) : Int)).toNat + 1) (([] : List TMail)) ((0 : Int)))))

set_option maxRecDepth 100000 in
theorem W_exchange_Collect {V : View} (x1 : Int) (x2 : Int) (x3 : List TMail) {a4 : Option Addr} {k4 : Nat} (h4 : SlAt cTMail V a4 k4 x3) {r : List TPair × Int} (hF : F_exchange_Collect x1 x2 x3 = some r) :
    Spec Tryz.prog 20 [.int .i64 (x1), .int .i64 (x2), .slice a4 ((x3).length) (k4)] V (fun V' v => ∃ (a124 : Option Addr) (k124 : Nat), v = .tuple ⟨[.slice a124 ((r.1).length) (k124), .int .i64 (r.2)]⟩ ∧ SlAt cTPair V' a124 k124 r.1) := by
  unfold F_exchange_Collect at hF
  refine Spec.enter (T := tyT) Tryz.func20 rfl (by kernel_rfl) rfl rfl rfl ?_
  refine Exec.run tyOk 16 rfl ?_
  refine Exec.row0 50 5 rfl ?_
  have h5 : RowRep cTMail V ([] : List TMail) [] := RowRep.nil
  obtain ⟨J8, hJ8, hF⟩ := jn_some hF
  refine Exec.seam (fun L' V' M' => ∃ (x7 : List TMail) (a6 : Option Addr) (k6 : Nat) (cs6 : List Value), L' = [(8, .v (.slice a6 ((x7).length) (k6)))] ∧ M' = [.row (.slice a6 ((x7).length) (k6)) cs6 50 5] ∧ RowRep cTMail V' x7 cs6 ∧ J8 x7 = some r) rfl ?_ ?_
  · rintro L' V9 M' ⟨x7, a6, k6, cs6, rfl, rfl, h6, hF⟩
    subst hJ8
    refine Exec.run tyOk 400 rfl ?_
    rcases cond_some hF with ⟨hb, hF⟩ | ⟨hb, hF⟩
    · skip
      refine Exec.ifT rfl hb ?_
      refine Exec.run tyOk 400 rfl ?_
      obtain rfl := some_inj hF
      exact Exec.ret tyOk rfl rfl ⟨_, _, rfl, SlAt.nil⟩
    · skip
      refine Exec.ifF rfl hb ?_
      refine Exec.run tyOk 8 rfl ?_
      obtain ⟨J11, hJ11, hF⟩ := jn_some hF
      refine Exec.seam (fun L' V' M' => L' = [(8, .v (.slice a6 ((x7).length) (k6)))] ∧ M' = [.row (.slice a6 ((x7).length) (k6)) cs6 50 5] ∧ RowRep cTMail V' x7 cs6 ∧ J11 = some r) rfl ?_ ?_
      · rintro L' V12 M' ⟨rfl, rfl, h10, hF⟩
        subst hJ11
        refine Exec.run tyOk 11 rfl ?_
        obtain ⟨J15, hJ15, hF⟩ := jn_some hF
        refine Exec.seam (fun L' V' M' => ∃ (x13 : List TPair) (a14 : Option Addr) (k14 : Nat), L' = [(13, .v (.slice a14 ((x13).length) (k14)))] ∧ M' = [] ∧ SlAt cTPair V' a14 k14 x13 ∧ J15 x13 = some r) rfl ?_ ?_
        · rintro L' V16 M' ⟨x13, a14, k14, rfl, rfl, h14, hF⟩
          subst hJ15
          refine Exec.run tyOk 400 rfl ?_
          obtain rfl := some_inj hF
          exact Exec.ret tyOk rfl rfl ⟨_, _, rfl, h14⟩
        · skip
          refine Exec.run tyOk 400 rfl ?_
          refine Exec.frz 0 rfl rfl rfl (fun V55 hv55 hd55 hn55 => ?_)
          have hz55 := RowRep.slat h10 hv55 hd55 hn55
          refine Exec.cut 0 [(8, .v (.slice a6 ((x7).length) (k6))), (13, .v (.slice none (0) (0))), (59, .v (.slice a6 ((x7).length) (k6))), (60, .v (.int .i64 ((((x7).length : Nat) : Int)))), (61, .v (.int .i64 ((0 : Int))))] (M' := []) rfl ⟨rfl, rfl, rfl, rfl, rfl, trivial⟩ rfl rfl rfl ?_
          refine Exec.loop (fun n59 L' V' M' => ∃ (x56 : List TPair) (a57 : Option Addr) (k57 : Nat) (x58 : Int), L' = [(8, .v (.slice a6 ((x7).length) (k6))), (13, .v (.slice a57 ((x56).length) (k57))), (59, .v (.slice a6 ((x7).length) (k6))), (60, .v (.int .i64 ((((x7).length : Nat) : Int)))), (61, .v (.int .i64 (x58)))] ∧ M' = [] ∧ SlAt cTPair V' a57 k57 x56 ∧ SlAt cTMail V' a6 k6 x7 ∧ F_exchange_Collect_L1 x7 J15 n59 x56 x58 = some r) ⟨(((((x7).length : Nat) : Int)).toNat + 1), [(8, .v (.slice a6 ((x7).length) (k6))), (13, .v (.slice none (0) (0))), (59, .v (.slice a6 ((x7).length) (k6))), (60, .v (.int .i64 ((((x7).length : Nat) : Int)))), (61, .v (.int .i64 ((0 : Int))))], ⟨rfl, rfl, rfl, rfl, rfl, trivial⟩, ([] : List TPair), none, 0, (0 : Int), rfl, rfl, SlAt.nil, hz55, hF⟩ ?_
          rintro n59 L' V60 M' ⟨x56, a57, k57, x58, rfl, rfl, h57, h61, hF⟩
          rcases n59 with _ | n59
          · exact absurd hF (by simp [F_exchange_Collect_L1])
          rw [F_exchange_Collect_L1] at hF
          refine Exec.run tyOk 400 rfl ?_
          rcases cond_some hF with ⟨hb, hF⟩ | ⟨hb, hF⟩
          · skip
            refine Exec.ifT rfl hb ?_
            refine Exec.run tyOk 400 rfl ?_
            obtain ⟨q62, hF⟩ := req_some hF
            obtain ⟨c63, hr63, hd63⟩ := SlAt.get h61 q62
            obtain ⟨a64, k64, a65, k65, rfl, h64, h65⟩ := hr63
            refine Exec.ia tyOk rfl rfl ⟨q62.1, q62.2, hd63.some⟩ ?_
            refine Exec.run tyOk 400 rfl ?_
            refine Exec.ld tyOk (x := .agg ⟨[.int .i64 ((atI x7 x58).Txn), .int .i64 ((atI x7 x58).From), .int .i64 ((atI x7 x58).To), .slice a64 (((atI x7 x58).Keys).length) (k64), .slice a65 (((atI x7 x58).Pairs).length) (k65)]⟩) rfl rfl hd63 rfl rfl ?_
            refine Exec.run tyOk 400 rfl ?_
            obtain ⟨q66, hF⟩ := req_some hF
            refine Exec.slv tyOk (c := cTMail) rfl rfl (lo := (0 : Int)) (hi := x58) rfl rfl h61 (by simp) rfl q66 (fun a67 k67 h67 => ?_)
            refine Exec.run tyOk 400 rfl ?_
            refine Exec.openB 0 rfl rfl rfl rfl (fun _ => rfl) (fun _ => rfl) (fun V68 b68 hv68 hd68 => ?_)
            have h69 := SlAt.mono h61 hv68
            have h70 := SlAt.mono h57 hv68
            have h71 := SlAt.mono h64 hv68
            have h72 := SlAt.mono h65 hv68
            have h74 := SlAt.mono h67 hv68
            refine Exec.mkf rfl rfl ?_
            refine Exec.run tyOk 400 rfl ?_
            obtain ⟨x77, hx77, hF⟩ := bnd_some hF
            refine Exec.callS (.bool (x77)) rfl rfl (W_slices_ContainsFunc_api_Mail_api_Mail (((x7.take (x58).toNat).drop ((0 : Int)).toNat)) (fun y0 => F_exchange_Collect_2 y0 ((atI x7 x58))) h74 (fun V' hv y0 _ r hrp hr => by obtain ⟨_, _, _, _, rfl, s0, s1⟩ := hrp; exact W_exchange_Collect_2 y0 ((atI x7 x58)) s0 s1 (SlAt.mono h71 hv) (SlAt.mono h72 hv) (RdAt.mono hd68 hv) hr) hx77) ?_
            refine Exec.run tyOk 400 rfl ?_
            rcases cond_some hF with ⟨hb, hF⟩ | ⟨hb, hF⟩
            · skip
              refine Exec.ifT rfl hb ?_
              refine Exec.run tyOk 400 rfl ?_
              obtain rfl := some_inj hF
              exact Exec.ret tyOk rfl rfl ⟨_, _, rfl, SlAt.nil⟩
            · skip
              refine Exec.ifF rfl hb ?_
              refine Exec.run tyOk 400 rfl ?_
              refine Exec.ld tyOk (x := .slice a65 (((atI x7 x58).Pairs).length) (k65)) rfl rfl (RdAt.shift (RdAt.part hd68 4 1 rfl)) rfl rfl ?_
              refine Exec.run tyOk 400 rfl ?_
              obtain ⟨x78, hx78, hF⟩ := bnd_some hF
              refine Exec.call rfl rfl (W_state_Union x56 ((atI x7 x58).Pairs) h70 h72 hx78) ?_
              rintro V80 _ hv80 ⟨a79, k79, rfl, h79⟩
              have h81 := SlAt.mono h69 hv80
              have h82 := SlAt.mono h70 hv80
              have h83 := RdAt.mono hd68 hv80
              have h84 := SlAt.mono h71 hv80
              have h85 := SlAt.mono h72 hv80
              have h87 := SlAt.mono h74 hv80
              refine Exec.run tyOk 400 rfl ?_
              rcases cond_some hF with ⟨hb, hF⟩ | ⟨hb, hF⟩
              · skip
                refine Exec.ifT rfl hb ?_
                refine Exec.run tyOk 400 rfl ?_
                obtain rfl := some_inj hF
                exact Exec.ret tyOk rfl rfl ⟨_, _, rfl, SlAt.nil⟩
              · skip
                refine Exec.ifF rfl hb ?_
                refine Exec.run tyOk 400 rfl ?_
                refine Exec.cut 0 [(8, .v (.slice a6 ((x7).length) (k6))), (13, .v (.slice a79 ((x78.1).length) (k79))), (59, .v (.slice a6 ((x7).length) (k6))), (60, .v (.int .i64 ((((x7).length : Nat) : Int)))), (61, .v (.int .i64 ((IntKind.i64.wrap (x58 + (1 : Int))))))] (M' := []) rfl ⟨rfl, rfl, rfl, rfl, rfl, trivial⟩ rfl rfl rfl ?_
                exact Exec.round [(8, .v (.slice a6 ((x7).length) (k6))), (13, .v (.slice a79 ((x78.1).length) (k79))), (59, .v (.slice a6 ((x7).length) (k6))), (60, .v (.int .i64 ((((x7).length : Nat) : Int)))), (61, .v (.int .i64 ((IntKind.i64.wrap (x58 + (1 : Int))))))] ⟨rfl, rfl, rfl, rfl, rfl, trivial⟩ ⟨n59, Nat.lt_succ_self _, x78.1, a79, k79, (IntKind.i64.wrap (x58 + (1 : Int))), rfl, rfl, h79, h81, hF⟩
          · skip
            refine Exec.ifF rfl hb ?_
            refine Exec.run tyOk 400 rfl ?_
            exact Exec.round [(13, .v (.slice a57 ((x56).length) (k57)))] ⟨rfl, trivial⟩ ⟨x56, a57, k57, rfl, rfl, h57, hF⟩
      · skip
        refine Exec.run tyOk 400 rfl ?_
        refine Exec.loop (fun n90 L' V' M' => ∃ (x89 : Int), L' = [(8, .v (.slice a6 ((x7).length) (k6))), (48, .v (.slice a6 ((x7).length) (k6))), (49, .v (.int .i64 ((((x7).length : Nat) : Int)))), (50, .v (.int .i64 (x89)))] ∧ M' = [.row (.slice a6 ((x7).length) (k6)) cs6 50 5] ∧ RowRep cTMail V' x7 cs6 ∧ F_exchange_Collect_L2 x7 J11 n90 x89 = some r) ⟨(((((x7).length : Nat) : Int)).toNat + 1), [(8, .v (.slice a6 ((x7).length) (k6))), (48, .v (.slice a6 ((x7).length) (k6))), (49, .v (.int .i64 ((((x7).length : Nat) : Int)))), (50, .v (.int .i64 ((0 : Int))))], ⟨rfl, rfl, rfl, rfl, trivial⟩, (0 : Int), rfl, rfl, h6, hF⟩ ?_
        rintro n90 L' V91 M' ⟨x89, rfl, rfl, h88, hF⟩
        rcases n90 with _ | n90
        · exact absurd hF (by simp [F_exchange_Collect_L2])
        rw [F_exchange_Collect_L2] at hF
        refine Exec.run tyOk 400 rfl ?_
        rcases cond_some hF with ⟨hb, hF⟩ | ⟨hb, hF⟩
        · skip
          refine Exec.ifT rfl hb ?_
          refine Exec.run tyOk 400 rfl ?_
          obtain ⟨q92, hF⟩ := req_some hF
          refine Exec.rowI 0 rfl (fun ra93 rb93 rc93 => ?_)
          obtain ⟨c94, hr94, hd94⟩ := RowRep.get h88 q92
          obtain ⟨a95, k95, a96, k96, rfl, h95, h96⟩ := hr94
          have rd93 : 0 ≤ x89 ∧ x89 < (((x7).length : Nat) : Int) := q92
          have rs93 := rb93 (by omega)
          refine Exec.ia tyOk rfl rfl ⟨rd93.1, rd93.2, rs93⟩ ?_
          refine Exec.run tyOk 400 rfl ?_
          refine Exec.ldR tyOk 0 (x := .agg ⟨[.int .i64 ((atI x7 x89).Txn), .int .i64 ((atI x7 x89).From), .int .i64 ((atI x7 x89).To), .slice a95 (((atI x7 x89).Keys).length) (k95), .slice a96 (((atI x7 x89).Pairs).length) (k96)]⟩) rfl rfl rfl ⟨hd94, rs93⟩ rfl rfl ?_
          refine Exec.run tyOk 400 rfl ?_
          obtain ⟨x97, hx97, hF⟩ := bnd_some hF
          refine Exec.callS (.bool (x97)) rfl rfl (W_state_Valid ((atI x7 x89).Pairs) h96 hx97) ?_
          refine Exec.run tyOk 400 rfl ?_
          rcases cond_some hF with ⟨hb, hF⟩ | ⟨hb, hF⟩
          · skip
            refine Exec.ifT rfl hb ?_
            refine Exec.run tyOk 400 rfl ?_
            obtain rfl := some_inj hF
            exact Exec.ret tyOk rfl rfl ⟨_, _, rfl, SlAt.nil⟩
          · skip
            refine Exec.ifF rfl hb ?_
            refine Exec.run tyOk 400 rfl ?_
            refine Exec.cut 1 [(8, .v (.slice a6 ((x7).length) (k6))), (48, .v (.slice a6 ((x7).length) (k6))), (49, .v (.int .i64 ((((x7).length : Nat) : Int)))), (50, .v (.int .i64 ((IntKind.i64.wrap (x89 + (1 : Int))))))] (M' := [.row (.slice a6 ((x7).length) (k6)) cs6 50 5]) rfl ⟨rfl, rfl, rfl, rfl, trivial⟩ rfl rfl rfl ?_
            exact Exec.round [(8, .v (.slice a6 ((x7).length) (k6))), (48, .v (.slice a6 ((x7).length) (k6))), (49, .v (.int .i64 ((((x7).length : Nat) : Int)))), (50, .v (.int .i64 ((IntKind.i64.wrap (x89 + (1 : Int))))))] ⟨rfl, rfl, rfl, rfl, trivial⟩ ⟨n90, Nat.lt_succ_self _, (IntKind.i64.wrap (x89 + (1 : Int))), rfl, rfl, h88, hF⟩
        · skip
          refine Exec.ifF rfl hb ?_
          refine Exec.run tyOk 400 rfl ?_
          exact Exec.round [(8, .v (.slice a6 ((x7).length) (k6)))] ⟨rfl, trivial⟩ ⟨rfl, rfl, h88, hF⟩
  · skip
    refine Exec.run tyOk 400 rfl ?_
    refine Exec.loop (fun n101 L' V' M' => ∃ (x99 : List TMail) (a98 : Option Addr) (k98 : Nat) (cs98 : List Value) (x100 : Int), L' = [(0, .v (.int .i64 (x1))), (1, .v (.int .i64 (x2))), (8, .v (.slice a98 ((x99).length) (k98))), (18, .v (.slice a4 ((x3).length) (k4))), (19, .v (.int .i64 ((((x3).length : Nat) : Int)))), (20, .v (.int .i64 (x100)))] ∧ M' = [.row (.slice a98 ((x99).length) (k98)) cs98 50 5] ∧ RowRep cTMail V' x99 cs98 ∧ SlAt cTMail V' a4 k4 x3 ∧ F_exchange_Collect_L3 x3 x1 x2 J8 n101 x99 x100 = some r) ⟨(((((x3).length : Nat) : Int)).toNat + 1), [(0, .v (.int .i64 (x1))), (1, .v (.int .i64 (x2))), (8, .v (.slice none ((([] : List TMail)).length) (0))), (18, .v (.slice a4 ((x3).length) (k4))), (19, .v (.int .i64 ((((x3).length : Nat) : Int)))), (20, .v (.int .i64 ((0 : Int))))], ⟨rfl, rfl, rfl, rfl, rfl, rfl, trivial⟩, ([] : List TMail), none, 0, [], (0 : Int), rfl, rfl, h5, h4, hF⟩ ?_
    rintro n101 L' V102 M' ⟨x99, a98, k98, cs98, x100, rfl, rfl, h98, h103, hF⟩
    rcases n101 with _ | n101
    · exact absurd hF (by simp [F_exchange_Collect_L3])
    rw [F_exchange_Collect_L3] at hF
    refine Exec.run tyOk 400 rfl ?_
    rcases cond_some hF with ⟨hb, hF⟩ | ⟨hb, hF⟩
    · skip
      refine Exec.ifT rfl hb ?_
      refine Exec.run tyOk 400 rfl ?_
      obtain ⟨q104, hF⟩ := req_some hF
      obtain ⟨c105, hr105, hd105⟩ := SlAt.get h103 q104
      obtain ⟨a106, k106, a107, k107, rfl, h106, h107⟩ := hr105
      refine Exec.ia tyOk rfl rfl ⟨q104.1, q104.2, hd105.some⟩ ?_
      refine Exec.run tyOk 400 rfl ?_
      refine Exec.ld tyOk (x := .agg ⟨[.int .i64 ((atI x3 x100).Txn), .int .i64 ((atI x3 x100).From), .int .i64 ((atI x3 x100).To), .slice a106 (((atI x3 x100).Keys).length) (k106), .slice a107 (((atI x3 x100).Pairs).length) (k107)]⟩) rfl rfl hd105 rfl rfl ?_
      refine Exec.run tyOk 400 rfl ?_
      refine Exec.openB 1 rfl rfl rfl rfl (fun _ => rfl) (fun _ => rfl) (fun V108 b108 hv108 hd108 => ?_)
      have h109 := SlAt.mono h106 hv108
      have h110 := SlAt.mono h107 hv108
      have h111 := SlAt.mono h103 hv108
      have h113 := RowRep.mono hv108 h98
      refine Exec.mkf rfl rfl ?_
      refine Exec.run tyOk 400 rfl ?_
      obtain ⟨x116, hx116, hF⟩ := bnd_some hF
      refine Exec.callL (.bool (x116)) rfl rfl (fun _ hv hl => fun gg0 => W_slices_ContainsFunc_api_Mail_api_Mail x99 (fun y0 => F_exchange_Collect_1 y0 ((atI x3 x100))) (RowRep.slat h113 hv (hl 0 _ _ _ _ _ _ rfl).1 (hl 0 _ _ _ _ _ _ rfl).2) (fun V' hv2 y0 _ r hrp hr => by obtain ⟨_, _, _, _, rfl, s0, s1⟩ := hrp; exact W_exchange_Collect_1 y0 ((atI x3 x100)) s0 s1 (SlAt.mono h109 (hv.trans hv2)) (SlAt.mono h110 (hv.trans hv2)) (RdAt.mono hd108 (hv.trans hv2)) hr) (gcall_some hx116 (gd1_of gg0))) ?_
      refine Exec.run tyOk 400 rfl ?_
      obtain ⟨J119, hJ119, hF⟩ := jn_some hF
      refine Exec.seam (fun L' V' M' => ∃ (x118 : List TMail) (a117 : Option Addr) (k117 : Nat) (cs117 : List Value), L' = [(0, .v (.int .i64 (x1))), (1, .v (.int .i64 (x2))), (8, .v (.slice a117 ((x118).length) (k117))), (18, .v (.slice a4 ((x3).length) (k4))), (19, .v (.int .i64 ((((x3).length : Nat) : Int)))), (20, .v (.int .i64 (x100)))] ∧ M' = [.row (.slice a117 ((x118).length) (k117)) cs117 50 5] ∧ RowRep cTMail V' x118 cs117 ∧ SlAt cTMail V' a4 k4 x3 ∧ J119 x118 = some r) rfl ?_ ?_
      · rintro L' V120 M' ⟨x118, a117, k117, cs117, rfl, rfl, h117, h121, hF⟩
        subst hJ119
        refine Exec.run tyOk 400 rfl ?_
        exact Exec.round [(0, .v (.int .i64 (x1))), (1, .v (.int .i64 (x2))), (8, .v (.slice a117 ((x118).length) (k117))), (18, .v (.slice a4 ((x3).length) (k4))), (19, .v (.int .i64 ((((x3).length : Nat) : Int)))), (20, .v (.int .i64 ((IntKind.i64.wrap (x100 + (1 : Int))))))] ⟨rfl, rfl, rfl, rfl, rfl, rfl, trivial⟩ ⟨n101, Nat.lt_succ_self _, x118, a117, k117, cs117, (IntKind.i64.wrap (x100 + (1 : Int))), rfl, rfl, h117, h121, hF⟩
      · skip
        refine Exec.run tyOk 400 rfl ?_
        rcases cond_some hF with ⟨hb, hF⟩ | ⟨hb, hF⟩
        · skip
          refine Exec.ifT rfl hb ?_
          refine Exec.run tyOk 400 rfl ?_
          refine Exec.ld tyOk (x := .agg ⟨[.int .i64 ((atI x3 x100).Txn), .int .i64 ((atI x3 x100).From), .int .i64 ((atI x3 x100).To), .slice a106 (((atI x3 x100).Keys).length) (k106), .slice a107 (((atI x3 x100).Pairs).length) (k107)]⟩) rfl rfl hd108 rfl rfl ?_
          refine Exec.run tyOk 400 rfl ?_
          refine Exec.bsl tyOk rfl rfl ?_
          refine Exec.run tyOk 400 rfl ?_
          obtain ⟨q123, hF⟩ := req_some hF
          refine Exec.app tyOk 0 2 (nm := ((x99 ++ [(atI x3 x100)])).length) rfl rfl rfl rfl rfl rfl rfl rfl rfl (by simp) (fun _ _ => rfl) rfl q123 (fun a122 k122 => ?_)
          have h122 : RowRep cTMail V108 (x99 ++ [(atI x3 x100)]) (cs98 ++ [.int .i64 ((atI x3 x100).Txn), .int .i64 ((atI x3 x100).From), .int .i64 ((atI x3 x100).To), .slice a106 (((atI x3 x100).Keys).length) (k106), .slice a107 (((atI x3 x100).Pairs).length) (k107)]) := RowRep.app h113 ⟨_, _, rfl, ⟨_, _, _, _, rfl, h109, h110⟩, rfl⟩
          refine Exec.run tyOk 400 rfl ?_
          refine Exec.cut 1 [(0, .v (.int .i64 (x1))), (1, .v (.int .i64 (x2))), (8, .v (.slice a122 (((x99 ++ [(atI x3 x100)])).length) (k122))), (18, .v (.slice a4 ((x3).length) (k4))), (19, .v (.int .i64 ((((x3).length : Nat) : Int)))), (20, .v (.int .i64 (x100)))] (M' := [.row (.slice a122 (((x99 ++ [(atI x3 x100)])).length) (k122)) ((cs98 ++ [.int .i64 ((atI x3 x100).Txn), .int .i64 ((atI x3 x100).From), .int .i64 ((atI x3 x100).To), .slice a106 (((atI x3 x100).Keys).length) (k106), .slice a107 (((atI x3 x100).Pairs).length) (k107)])) 50 5]) rfl ⟨rfl, rfl, rfl, rfl, rfl, rfl, trivial⟩ rfl rfl rfl ?_
          exact Exec.round [(0, .v (.int .i64 (x1))), (1, .v (.int .i64 (x2))), (8, .v (.slice a122 (((x99 ++ [(atI x3 x100)])).length) (k122))), (18, .v (.slice a4 ((x3).length) (k4))), (19, .v (.int .i64 ((((x3).length : Nat) : Int)))), (20, .v (.int .i64 (x100)))] ⟨rfl, rfl, rfl, rfl, rfl, rfl, trivial⟩ ⟨(x99 ++ [(atI x3 x100)]), a122, k122, (cs98 ++ [.int .i64 ((atI x3 x100).Txn), .int .i64 ((atI x3 x100).From), .int .i64 ((atI x3 x100).To), .slice a106 (((atI x3 x100).Keys).length) (k106), .slice a107 (((atI x3 x100).Pairs).length) (k107)]), rfl, rfl, h122, h111, hF⟩
        · skip
          refine Exec.ifF rfl hb ?_
          refine Exec.run tyOk 400 rfl ?_
          refine Exec.cut 1 [(0, .v (.int .i64 (x1))), (1, .v (.int .i64 (x2))), (8, .v (.slice a98 ((x99).length) (k98))), (18, .v (.slice a4 ((x3).length) (k4))), (19, .v (.int .i64 ((((x3).length : Nat) : Int)))), (20, .v (.int .i64 (x100)))] (M' := [.row (.slice a98 ((x99).length) (k98)) cs98 50 5]) rfl ⟨rfl, rfl, rfl, rfl, rfl, rfl, trivial⟩ rfl rfl rfl ?_
          exact Exec.round [(0, .v (.int .i64 (x1))), (1, .v (.int .i64 (x2))), (8, .v (.slice a98 ((x99).length) (k98))), (18, .v (.slice a4 ((x3).length) (k4))), (19, .v (.int .i64 ((((x3).length : Nat) : Int)))), (20, .v (.int .i64 (x100)))] ⟨rfl, rfl, rfl, rfl, rfl, rfl, trivial⟩ ⟨x99, a98, k98, cs98, rfl, rfl, h113, h111, hF⟩
    · skip
      refine Exec.ifF rfl hb ?_
      refine Exec.run tyOk 400 rfl ?_
      exact Exec.round [(8, .v (.slice a98 ((x99).length) (k98)))] ⟨rfl, trivial⟩ ⟨x99, a98, k98, cs98, rfl, rfl, h98, hF⟩

def F_exchange_Decode_L1 (x20 : Int × Int × Int) (x1 : Str) (J30 : TMail → (List Int) → (List Str) → Int → Option (TMail × Int)) : Nat → TMail → (List Int) → (List Str) → Int → Int → Option (TMail × Int)
  | 0, _, _, _, _, _ => none
  | n52 + 1, x43, x47, x49, x50, x51 => (cond (decide (x51 < x20.1)) (bnd (F_wire_TakeText x1 x50 ((24 : Int))) fun x54 => (cond (x54.2.2 != (0 : Int)) (some ((⟨0, 0, 0, ([] : List Str), ([] : List TPair)⟩ : TMail), x54.2.2)) (req (((x49 ++ [x54.1])).length * 16 ≤ 140737488355328) (F_exchange_Decode_L1 x20 x1 J30 n52 x43 x47 ((x49 ++ [x54.1])) x54.2.1 ((IntKind.i64.wrap (x51 + (1 : Int)))))))) (J30 x43 x47 x49 x50))

def F_exchange_Decode_L2 (x1 : Str) (J9 : TMail → (List Int) → Int → Option (TMail × Int)) : Nat → TMail → (List Int) → Int → Int → Option (TMail × Int)
  | 0, _, _, _, _ => none
  | n64 + 1, x57, x61, x62, x63 => (cond (decide (x63 < (3 : Int))) (bnd (F_wire_TakeInt x1 x62) fun x66 => (cond (x66.2.2 != (0 : Int)) (some ((⟨0, 0, 0, ([] : List Str), ([] : List TPair)⟩ : TMail), x66.2.2)) (req (0 ≤ x63 ∧ x63 < ((x61).length : Int)) (F_exchange_Decode_L2 x1 J9 n64 x57 ((x61.set (x63).toNat x66.1)) x66.2.1 ((IntKind.i64.wrap (x63 + (1 : Int)))))))) (J9 x57 x61 x62))

def F_exchange_Decode (x1 : Str) : Option (TMail × Int) :=
  (jn (fun (x3 : TMail) (x7 : List Int) (x8 : Int) => (req (0 ≤ (0 : Int) ∧ (0 : Int) < ((x7).length : Int)) (req (0 ≤ (1 : Int) ∧ (1 : Int) < ((x7).length : Int)) (req (0 ≤ (2 : Int) ∧ (2 : Int) < ((x7).length : Int)) (bnd (F_wire_TakeCount x1 x8 ((64 : Int))) fun x20 => (cond (x20.2.2 != (0 : Int)) (some ((⟨0, 0, 0, ([] : List Str), ([] : List TPair)⟩ : TMail), x20.2.2)) (jn (fun (x22 : TMail) (x26 : List Int) (x28 : List Str) (x29 : Int) => (bnd (F_state_Decode x1 x29) fun x32 => (cond (x32.2.2 != (0 : Int)) (some ((⟨0, 0, 0, ([] : List Str), ([] : List TPair)⟩ : TMail), x32.2.2)) (bnd (gcall (((x32.2.1 != ((x1).length : Int))) == false) (F_exchange_validMail ((⟨(atI x7 ((0 : Int))), (atI x7 ((1 : Int))), (atI x7 ((2 : Int))), x28, x32.1⟩ : TMail)))) fun x39 => (cond ((x32.2.1 != ((x1).length : Int)) || (!x39)) (some ((⟨0, 0, 0, ([] : List Str), ([] : List TPair)⟩ : TMail), (5 : Int))) (some ((⟨(atI x7 ((0 : Int))), (atI x7 ((1 : Int))), (atI x7 ((2 : Int))), x28, x32.1⟩ : TMail), (0 : Int)))))))) (fun J30 => (F_exchange_Decode_L1 x20 x1 J30 ((x20.1).toNat + 1) x3 x7 (([] : List Str)) x20.2.1 ((0 : Int))))))))))) (fun J9 => (F_exchange_Decode_L2 x1 J9 (((3 : Int)).toNat + 1) ((default : TMail)) ((List.replicate 3 (0 : Int))) ((0 : Int)) ((0 : Int)))))

set_option maxRecDepth 100000 in
theorem W_exchange_Decode {V : View} (x1 : Str)   {r : TMail × Int} (hF : F_exchange_Decode x1 = some r) :
    Spec Tryz.prog 31 [.string ⟨⟨x1⟩⟩] V (fun V' v => ∃ (a71 : Option Addr) (k71 : Nat) (a72 : Option Addr) (k72 : Nat), v = .tuple ⟨[.agg ⟨[.int .i64 (r.1.Txn), .int .i64 (r.1.From), .int .i64 (r.1.To), .slice a71 ((r.1.Keys).length) (k71), .slice a72 ((r.1.Pairs).length) (k72)]⟩, .int .i64 (r.2)]⟩ ∧ SlAt cStr V' a71 k71 r.1.Keys ∧ SlAt cTPair V' a72 k72 r.1.Pairs) := by
  unfold F_exchange_Decode at hF
  refine Spec.enter (T := tyT) Tryz.func31 rfl (by kernel_rfl) rfl rfl rfl ?_
  refine Exec.run tyOk 18 rfl ?_
  refine Exec.fixA 1 (n := 3) (sz := 1) (cs := (List.replicate 3 (.int .i64 0))) rfl rfl rfl rfl rfl (fun _ => rfl) (fun _ => rfl) (fun b2 => ?_)
  have h2 : RowRep (cInt .i64) V (List.replicate 3 (0 : Int)) (List.replicate 3 [.int .i64 0]).flatten := RowRep.reps (c := (cInt .i64)) rfl 3
  rw [flat_one] at h2
  obtain ⟨J9, hJ9, hF⟩ := jn_some hF
  refine Exec.seam (fun L' V' M' => ∃ (x3 : TMail) (a4 : Option Addr) (k4 : Nat) (a5 : Option Addr) (k5 : Nat) (x7 : List Int) (cs6 : List Value) (x8 : Int), L' = [(0, .v (.string ⟨⟨x1⟩⟩)), (2, .ptr 0 0), (4, .v (.pointer (some ⟨b2, 0, none⟩))), (5, .v (.int .i64 (x8)))] ∧ M' = [.blk [.v (.int .i64 (x3.Txn)), .v (.int .i64 (x3.From)), .v (.int .i64 (x3.To)), .v (.slice a4 ((x3.Keys).length) (k4)), .v (.slice a5 ((x3.Pairs).length) (k5))] 50, .row (.slice ((some ⟨b2, 0, none⟩)) (3) (3)) cs6 89 1] ∧ SlAt cStr V' a4 k4 x3.Keys ∧ SlAt cTPair V' a5 k5 x3.Pairs ∧ RowRep (cInt .i64) V' x7 cs6 ∧ J9 x3 x7 x8 = some r) rfl ?_ ?_
  · rintro L' V10 M' ⟨x3, a4, k4, a5, k5, x7, cs6, x8, rfl, rfl, h4, h5, h6, hF⟩
    subst hJ9
    refine Exec.run tyOk 400 rfl ?_
    obtain ⟨q11, hF⟩ := req_some hF
    refine Exec.rowI 1 rfl (fun ra12 rb12 rc12 => ?_)
    obtain ⟨c13, hr13, hd13⟩ := h6.get q11
    obtain rfl := hr13
    have rl12 := RowRep.len h6
    refine Exec.iaA tyOk rfl rfl (ixA q11 rl12 ra12 (cInt .i64).pos) ?_
    refine Exec.run tyOk 400 rfl ?_
    refine Exec.ldR tyOk 1 (x := .int .i64 ((atI x7 ((0 : Int))))) rfl rfl rfl ⟨hd13, ⟨_, _, rfl⟩⟩ rfl rfl ?_
    refine Exec.run tyOk 400 rfl ?_
    obtain ⟨q14, hF⟩ := req_some hF
    refine Exec.rowI 1 rfl (fun ra15 rb15 rc15 => ?_)
    obtain ⟨c16, hr16, hd16⟩ := h6.get q14
    obtain rfl := hr16
    have rl15 := RowRep.len h6
    refine Exec.iaA tyOk rfl rfl (ixA q14 rl15 ra15 (cInt .i64).pos) ?_
    refine Exec.run tyOk 400 rfl ?_
    refine Exec.ldR tyOk 1 (x := .int .i64 ((atI x7 ((1 : Int))))) rfl rfl rfl ⟨hd16, ⟨_, _, rfl⟩⟩ rfl rfl ?_
    refine Exec.run tyOk 400 rfl ?_
    obtain ⟨q17, hF⟩ := req_some hF
    refine Exec.rowI 1 rfl (fun ra18 rb18 rc18 => ?_)
    obtain ⟨c19, hr19, hd19⟩ := h6.get q17
    obtain rfl := hr19
    have rl18 := RowRep.len h6
    refine Exec.iaA tyOk rfl rfl (ixA q17 rl18 ra18 (cInt .i64).pos) ?_
    refine Exec.run tyOk 400 rfl ?_
    refine Exec.ldR tyOk 1 (x := .int .i64 ((atI x7 ((2 : Int))))) rfl rfl rfl ⟨hd19, ⟨_, _, rfl⟩⟩ rfl rfl ?_
    refine Exec.run tyOk 400 rfl ?_
    obtain ⟨x20, hx20, hF⟩ := bnd_some hF
    refine Exec.callS (.tuple ⟨[.int .i64 (x20.1), .int .i64 (x20.2.1), .int .i64 (x20.2.2)]⟩) rfl rfl (W_wire_TakeCount x1 x8 ((64 : Int))  hx20) ?_
    refine Exec.run tyOk 400 rfl ?_
    rcases cond_some hF with ⟨hb, hF⟩ | ⟨hb, hF⟩
    · skip
      refine Exec.ifT rfl hb ?_
      refine Exec.run tyOk 400 rfl ?_
      obtain rfl := some_inj hF
      exact Exec.ret tyOk rfl rfl ⟨_, _, _, _, rfl, SlAt.nil, SlAt.nil⟩
    · skip
      refine Exec.ifF rfl hb ?_
      refine Exec.run tyOk 7 rfl ?_
      refine Exec.row0 9 1 rfl ?_
      have h21 : RowRep cStr V10 ([] : List Str) [] := RowRep.nil
      obtain ⟨J30, hJ30, hF⟩ := jn_some hF
      refine Exec.seam (fun L' V' M' => ∃ (x22 : TMail) (a23 : Option Addr) (k23 : Nat) (a24 : Option Addr) (k24 : Nat) (x26 : List Int) (cs25 : List Value) (x28 : List Str) (a27 : Option Addr) (k27 : Nat) (cs27 : List Value) (x29 : Int), L' = [(0, .v (.string ⟨⟨x1⟩⟩)), (2, .ptr 0 0), (5, .v (.int .i64 (x29))), (10, .ptr 2 0)] ∧ M' = [.blk [.v (.int .i64 (x22.Txn)), .v (.int .i64 (x22.From)), .v (.int .i64 (x22.To)), .v (.slice a23 ((x22.Keys).length) (k23)), .v (.slice a24 ((x22.Pairs).length) (k24))] 50, .row (.slice ((some ⟨b2, 0, none⟩)) (3) (3)) cs25 89 1, .blk [.v (.int .i64 ((atI x7 ((0 : Int))))), .v (.int .i64 ((atI x7 ((1 : Int))))), .v (.int .i64 ((atI x7 ((2 : Int))))), .v (.slice a27 ((x28).length) (k27)), .v (.slice none (0) (0))] 50, .row (.slice a27 ((x28).length) (k27)) cs27 9 1] ∧ SlAt cStr V' a23 k23 x22.Keys ∧ SlAt cTPair V' a24 k24 x22.Pairs ∧ RowRep (cInt .i64) V' x26 cs25 ∧ RowRep cStr V' x28 cs27 ∧ J30 x22 x26 x28 x29 = some r) rfl ?_ ?_
      · rintro L' V31 M' ⟨x22, a23, k23, a24, k24, x26, cs25, x28, a27, k27, cs27, x29, rfl, rfl, h23, h24, h25, h27, hF⟩
        subst hJ30
        refine Exec.run tyOk 400 rfl ?_
        obtain ⟨x32, hx32, hF⟩ := bnd_some hF
        refine Exec.call rfl rfl (W_state_Decode x1 x29  hx32) ?_
        rintro V34 _ hv34 ⟨a33, k33, rfl, h33⟩
        have h35 := SlAt.mono h23 hv34
        have h36 := SlAt.mono h24 hv34
        have h37 := RowRep.mono hv34 h25
        have h38 := RowRep.mono hv34 h27
        refine Exec.run tyOk 400 rfl ?_
        rcases cond_some hF with ⟨hb, hF⟩ | ⟨hb, hF⟩
        · skip
          refine Exec.ifT rfl hb ?_
          refine Exec.run tyOk 400 rfl ?_
          obtain rfl := some_inj hF
          exact Exec.ret tyOk rfl rfl ⟨_, _, _, _, rfl, SlAt.nil, SlAt.nil⟩
        · skip
          refine Exec.ifF rfl hb ?_
          refine Exec.run tyOk 400 rfl ?_
          obtain ⟨x39, hx39, hF⟩ := bnd_some hF
          refine Exec.callL (.bool (x39)) rfl rfl (fun _ hv hl => fun gg0 => W_exchange_validMail ((⟨(atI x7 ((0 : Int))), (atI x7 ((1 : Int))), (atI x7 ((2 : Int))), x28, x32.1⟩ : TMail)) (RowRep.slat h38 hv (hl 3 _ _ _ _ _ _ rfl).1 (hl 3 _ _ _ _ _ _ rfl).2) (SlAt.mono h33 hv) (gcall_some hx39 (gd1_of gg0))) ?_
          refine Exec.run tyOk 400 rfl ?_
          rcases cond_some hF with ⟨hb, hF⟩ | ⟨hb, hF⟩
          · skip
            refine Exec.ifT rfl hb ?_
            refine Exec.run tyOk 400 rfl ?_
            obtain rfl := some_inj hF
            exact Exec.ret tyOk rfl rfl ⟨_, _, _, _, rfl, SlAt.nil, SlAt.nil⟩
          · skip
            refine Exec.ifF rfl hb ?_
            refine Exec.run tyOk 400 rfl ?_
            refine Exec.frz 3 rfl rfl rfl (fun V40 hv40 hd40 hn40 => ?_)
            have hz40 := RowRep.slat h38 hv40 hd40 hn40
            have h41 := SlAt.mono h33 hv40
            have h42 := RowRep.mono hv40 h37
            obtain rfl := some_inj hF
            exact Exec.ret tyOk rfl rfl ⟨_, _, _, _, rfl, hz40, h41⟩
      · skip
        refine Exec.run tyOk 400 rfl ?_
        refine Exec.loop (fun n52 L' V' M' => ∃ (x43 : TMail) (a44 : Option Addr) (k44 : Nat) (a45 : Option Addr) (k45 : Nat) (x47 : List Int) (cs46 : List Value) (x49 : List Str) (a48 : Option Addr) (k48 : Nat) (cs48 : List Value) (x50 : Int) (x51 : Int), L' = [(0, .v (.string ⟨⟨x1⟩⟩)), (2, .ptr 0 0), (5, .v (.int .i64 (x50))), (10, .ptr 2 0), (54, .v (.int .i64 (x20.1))), (55, .v (.int .i64 (x51)))] ∧ M' = [.blk [.v (.int .i64 (x43.Txn)), .v (.int .i64 (x43.From)), .v (.int .i64 (x43.To)), .v (.slice a44 ((x43.Keys).length) (k44)), .v (.slice a45 ((x43.Pairs).length) (k45))] 50, .row (.slice ((some ⟨b2, 0, none⟩)) (3) (3)) cs46 89 1, .blk [.v (.int .i64 ((atI x7 ((0 : Int))))), .v (.int .i64 ((atI x7 ((1 : Int))))), .v (.int .i64 ((atI x7 ((2 : Int))))), .v (.slice a48 ((x49).length) (k48)), .v (.slice none (0) (0))] 50, .row (.slice a48 ((x49).length) (k48)) cs48 9 1] ∧ SlAt cStr V' a44 k44 x43.Keys ∧ SlAt cTPair V' a45 k45 x43.Pairs ∧ RowRep (cInt .i64) V' x47 cs46 ∧ RowRep cStr V' x49 cs48 ∧ F_exchange_Decode_L1 x20 x1 J30 n52 x43 x47 x49 x50 x51 = some r) ⟨((x20.1).toNat + 1), [(0, .v (.string ⟨⟨x1⟩⟩)), (2, .ptr 0 0), (5, .v (.int .i64 (x20.2.1))), (10, .ptr 2 0), (54, .v (.int .i64 (x20.1))), (55, .v (.int .i64 ((0 : Int))))], ⟨rfl, rfl, rfl, rfl, rfl, rfl, trivial⟩, x3, a4, k4, a5, k5, x7, cs6, ([] : List Str), none, 0, [], x20.2.1, (0 : Int), rfl, rfl, h4, h5, h6, h21, hF⟩ ?_
        rintro n52 L' V53 M' ⟨x43, a44, k44, a45, k45, x47, cs46, x49, a48, k48, cs48, x50, x51, rfl, rfl, h44, h45, h46, h48, hF⟩
        rcases n52 with _ | n52
        · exact absurd hF (by simp [F_exchange_Decode_L1])
        rw [F_exchange_Decode_L1] at hF
        refine Exec.run tyOk 400 rfl ?_
        rcases cond_some hF with ⟨hb, hF⟩ | ⟨hb, hF⟩
        · skip
          refine Exec.ifT rfl hb ?_
          refine Exec.run tyOk 400 rfl ?_
          obtain ⟨x54, hx54, hF⟩ := bnd_some hF
          refine Exec.callS (.tuple ⟨[.string ⟨⟨x54.1⟩⟩, .int .i64 (x54.2.1), .int .i64 (x54.2.2)]⟩) rfl rfl (W_wire_TakeText x1 x50 ((24 : Int))  hx54) ?_
          refine Exec.run tyOk 400 rfl ?_
          rcases cond_some hF with ⟨hb, hF⟩ | ⟨hb, hF⟩
          · skip
            refine Exec.ifT rfl hb ?_
            refine Exec.run tyOk 400 rfl ?_
            obtain rfl := some_inj hF
            exact Exec.ret tyOk rfl rfl ⟨_, _, _, _, rfl, SlAt.nil, SlAt.nil⟩
          · skip
            refine Exec.ifF rfl hb ?_
            refine Exec.run tyOk 400 rfl ?_
            refine Exec.bsl tyOk rfl rfl ?_
            refine Exec.run tyOk 400 rfl ?_
            obtain ⟨q56, hF⟩ := req_some hF
            refine Exec.app tyOk 3 4 (nm := ((x49 ++ [x54.1])).length) rfl rfl rfl rfl rfl rfl rfl rfl rfl (by simp) (fun _ _ => rfl) rfl q56 (fun a55 k55 => ?_)
            have h55 : RowRep cStr V53 (x49 ++ [x54.1]) (cs48 ++ [.string ⟨⟨x54.1⟩⟩]) := RowRep.app h48 ⟨_, _, rfl, rfl, rfl⟩
            refine Exec.run tyOk 400 rfl ?_
            refine Exec.cut 4 [(0, .v (.string ⟨⟨x1⟩⟩)), (2, .ptr 0 0), (5, .v (.int .i64 (x54.2.1))), (10, .ptr 2 0), (54, .v (.int .i64 (x20.1))), (55, .v (.int .i64 ((IntKind.i64.wrap (x51 + (1 : Int))))))] (M' := [.blk [.v (.int .i64 (x43.Txn)), .v (.int .i64 (x43.From)), .v (.int .i64 (x43.To)), .v (.slice a44 ((x43.Keys).length) (k44)), .v (.slice a45 ((x43.Pairs).length) (k45))] 50, .row (.slice ((some ⟨b2, 0, none⟩)) (3) (3)) cs46 89 1, .blk [.v (.int .i64 ((atI x7 ((0 : Int))))), .v (.int .i64 ((atI x7 ((1 : Int))))), .v (.int .i64 ((atI x7 ((2 : Int))))), .v (.slice a55 (((x49 ++ [x54.1])).length) (k55)), .v (.slice none (0) (0))] 50, .row (.slice a55 (((x49 ++ [x54.1])).length) (k55)) ((cs48 ++ [.string ⟨⟨x54.1⟩⟩])) 9 1]) rfl ⟨rfl, rfl, rfl, rfl, rfl, rfl, trivial⟩ rfl rfl rfl ?_
            exact Exec.round [(0, .v (.string ⟨⟨x1⟩⟩)), (2, .ptr 0 0), (5, .v (.int .i64 (x54.2.1))), (10, .ptr 2 0), (54, .v (.int .i64 (x20.1))), (55, .v (.int .i64 ((IntKind.i64.wrap (x51 + (1 : Int))))))] ⟨rfl, rfl, rfl, rfl, rfl, rfl, trivial⟩ ⟨n52, Nat.lt_succ_self _, x43, a44, k44, a45, k45, x47, cs46, (x49 ++ [x54.1]), a55, k55, (cs48 ++ [.string ⟨⟨x54.1⟩⟩]), x54.2.1, (IntKind.i64.wrap (x51 + (1 : Int))), rfl, rfl, h44, h45, h46, h55, hF⟩
        · skip
          refine Exec.ifF rfl hb ?_
          refine Exec.run tyOk 400 rfl ?_
          exact Exec.round [(0, .v (.string ⟨⟨x1⟩⟩)), (2, .ptr 0 0), (5, .v (.int .i64 (x50))), (10, .ptr 2 0)] ⟨rfl, rfl, rfl, rfl, trivial⟩ ⟨x43, a44, k44, a45, k45, x47, cs46, x49, a48, k48, cs48, x50, rfl, rfl, h44, h45, h46, h48, hF⟩
  · skip
    refine Exec.run tyOk 400 rfl ?_
    refine Exec.loop (fun n64 L' V' M' => ∃ (x57 : TMail) (a58 : Option Addr) (k58 : Nat) (a59 : Option Addr) (k59 : Nat) (x61 : List Int) (cs60 : List Value) (x62 : Int) (x63 : Int), L' = [(0, .v (.string ⟨⟨x1⟩⟩)), (2, .ptr 0 0), (4, .v (.pointer (some ⟨b2, 0, none⟩))), (5, .v (.int .i64 (x62))), (17, .v (.int .i64 (x63)))] ∧ M' = [.blk [.v (.int .i64 (x57.Txn)), .v (.int .i64 (x57.From)), .v (.int .i64 (x57.To)), .v (.slice a58 ((x57.Keys).length) (k58)), .v (.slice a59 ((x57.Pairs).length) (k59))] 50, .row (.slice ((some ⟨b2, 0, none⟩)) (3) (3)) cs60 89 1] ∧ SlAt cStr V' a58 k58 x57.Keys ∧ SlAt cTPair V' a59 k59 x57.Pairs ∧ RowRep (cInt .i64) V' x61 cs60 ∧ F_exchange_Decode_L2 x1 J9 n64 x57 x61 x62 x63 = some r) ⟨(((3 : Int)).toNat + 1), [(0, .v (.string ⟨⟨x1⟩⟩)), (2, .ptr 0 0), (4, .v (.pointer (some ⟨b2, 0, none⟩))), (5, .v (.int .i64 ((0 : Int)))), (17, .v (.int .i64 ((0 : Int))))], ⟨rfl, rfl, rfl, rfl, rfl, trivial⟩, (default : TMail), none, 0, none, 0, (List.replicate 3 (0 : Int)), (List.replicate 3 (.int .i64 0)), (0 : Int), (0 : Int), rfl, rfl, SlAt.nil, SlAt.nil, h2, hF⟩ ?_
    rintro n64 L' V65 M' ⟨x57, a58, k58, a59, k59, x61, cs60, x62, x63, rfl, rfl, h58, h59, h60, hF⟩
    rcases n64 with _ | n64
    · exact absurd hF (by simp [F_exchange_Decode_L2])
    rw [F_exchange_Decode_L2] at hF
    refine Exec.run tyOk 400 rfl ?_
    rcases cond_some hF with ⟨hb, hF⟩ | ⟨hb, hF⟩
    · skip
      refine Exec.ifT rfl hb ?_
      refine Exec.run tyOk 400 rfl ?_
      obtain ⟨x66, hx66, hF⟩ := bnd_some hF
      refine Exec.callS (.tuple ⟨[.int .i64 (x66.1), .int .i64 (x66.2.1), .int .i64 (x66.2.2)]⟩) rfl rfl (W_wire_TakeInt x1 x62  hx66) ?_
      refine Exec.run tyOk 400 rfl ?_
      rcases cond_some hF with ⟨hb, hF⟩ | ⟨hb, hF⟩
      · skip
        refine Exec.ifT rfl hb ?_
        refine Exec.run tyOk 400 rfl ?_
        obtain rfl := some_inj hF
        exact Exec.ret tyOk rfl rfl ⟨_, _, _, _, rfl, SlAt.nil, SlAt.nil⟩
      · skip
        refine Exec.ifF rfl hb ?_
        refine Exec.run tyOk 400 rfl ?_
        obtain ⟨q67, hF⟩ := req_some hF
        refine Exec.rowI 1 rfl (fun ra68 rb68 rc68 => ?_)
        obtain ⟨c69, hr69, hd69⟩ := h60.get q67
        obtain rfl := hr69
        have rl68 := RowRep.len h60
        refine Exec.iaA tyOk rfl rfl (ixA q67 rl68 ra68 (cInt .i64).pos) ?_
        refine Exec.run tyOk 400 rfl ?_
        have rl70 := RowRep.len h60
        have h70 : RowRep (cInt .i64) V65 (x61.set (x63).toNat x66.1) (cs60.take ((x63).toNat * 1) ++ [.int .i64 (x66.1)] ++ cs60.drop (((x63).toNat * 1) + 1)) := RowRep.set h60 q67 rfl
        refine Exec.stR tyOk 1 rfl rfl rfl rfl rfl ⟨_, _, rfl⟩ (stB q67 rl70) rfl rfl rfl ?_
        refine Exec.run tyOk 400 rfl ?_
        exact Exec.round [(0, .v (.string ⟨⟨x1⟩⟩)), (2, .ptr 0 0), (4, .v (.pointer (some ⟨b2, 0, none⟩))), (5, .v (.int .i64 (x66.2.1))), (17, .v (.int .i64 ((IntKind.i64.wrap (x63 + (1 : Int))))))] ⟨rfl, rfl, rfl, rfl, rfl, trivial⟩ ⟨n64, Nat.lt_succ_self _, x57, a58, k58, a59, k59, (x61.set (x63).toNat x66.1), (cs60.take ((x63).toNat * 1) ++ [.int .i64 (x66.1)] ++ cs60.drop (((x63).toNat * 1) + 1)), x66.2.1, (IntKind.i64.wrap (x63 + (1 : Int))), rfl, rfl, h58, h59, h70, hF⟩
    · skip
      refine Exec.ifF rfl hb ?_
      refine Exec.run tyOk 400 rfl ?_
      exact Exec.round [(0, .v (.string ⟨⟨x1⟩⟩)), (2, .ptr 0 0), (4, .v (.pointer (some ⟨b2, 0, none⟩))), (5, .v (.int .i64 (x62)))] ⟨rfl, rfl, rfl, rfl, trivial⟩ ⟨x57, a58, k58, a59, k59, x61, cs60, x62, rfl, rfl, h58, h59, h60, hF⟩

def F_clockworkref31_Decode_L1 (x20 : Int × Int × Int) (x1 : Str) (J30 : TMail → (List Int) → (List Str) → Int → Option (TMail × Int)) : Nat → TMail → (List Int) → (List Str) → Int → Int → Option (TMail × Int)
  | 0, _, _, _, _, _ => none
  | n52 + 1, x43, x47, x49, x50, x51 => (cond (decide (x51 < x20.1)) (bnd (F_clockworkref02_TakeText x1 x50 ((24 : Int))) fun x54 => (cond (x54.2.2 != (0 : Int)) (some ((⟨0, 0, 0, ([] : List Str), ([] : List TPair)⟩ : TMail), x54.2.2)) (req (((x49 ++ [x54.1])).length * 16 ≤ 140737488355328) (F_clockworkref31_Decode_L1 x20 x1 J30 n52 x43 x47 ((x49 ++ [x54.1])) x54.2.1 ((IntKind.i64.wrap (x51 + (1 : Int)))))))) (J30 x43 x47 x49 x50))

def F_clockworkref31_Decode_L2 (x1 : Str) (J9 : TMail → (List Int) → Int → Option (TMail × Int)) : Nat → TMail → (List Int) → Int → Int → Option (TMail × Int)
  | 0, _, _, _, _ => none
  | n64 + 1, x57, x61, x62, x63 => (cond (decide (x63 < (3 : Int))) (bnd (F_clockworkref02_TakeInt x1 x62) fun x66 => (req (0 ≤ x63 ∧ x63 < ((x61).length : Int)) (cond (x66.2.2 != (0 : Int)) (some ((⟨0, 0, 0, ([] : List Str), ([] : List TPair)⟩ : TMail), x66.2.2)) (F_clockworkref31_Decode_L2 x1 J9 n64 x57 ((x61.set (x63).toNat x66.1)) x66.2.1 ((IntKind.i64.wrap (x63 + (1 : Int)))))))) (J9 x57 x61 x62))

def F_clockworkref31_Decode (x1 : Str) : Option (TMail × Int) :=
  (jn (fun (x3 : TMail) (x7 : List Int) (x8 : Int) => (req (0 ≤ (0 : Int) ∧ (0 : Int) < ((x7).length : Int)) (req (0 ≤ (1 : Int) ∧ (1 : Int) < ((x7).length : Int)) (req (0 ≤ (2 : Int) ∧ (2 : Int) < ((x7).length : Int)) (bnd (F_clockworkref02_TakeCount x1 x8 ((64 : Int))) fun x20 => (cond (x20.2.2 != (0 : Int)) (some ((⟨0, 0, 0, ([] : List Str), ([] : List TPair)⟩ : TMail), x20.2.2)) (jn (fun (x22 : TMail) (x26 : List Int) (x28 : List Str) (x29 : Int) => (bnd (F_clockworkref06_Decode x1 x29) fun x32 => (cond (x32.2.2 != (0 : Int)) (some ((⟨0, 0, 0, ([] : List Str), ([] : List TPair)⟩ : TMail), x32.2.2)) (bnd (gcall (((x32.2.1 != ((x1).length : Int))) == false) (F_clockworkref31_Valid ((⟨(atI x7 ((0 : Int))), (atI x7 ((1 : Int))), (atI x7 ((2 : Int))), x28, x32.1⟩ : TMail)))) fun x39 => (cond ((x32.2.1 != ((x1).length : Int)) || (!x39)) (some ((⟨0, 0, 0, ([] : List Str), ([] : List TPair)⟩ : TMail), (5 : Int))) (some ((⟨(atI x7 ((0 : Int))), (atI x7 ((1 : Int))), (atI x7 ((2 : Int))), x28, x32.1⟩ : TMail), (0 : Int)))))))) (fun J30 => (F_clockworkref31_Decode_L1 x20 x1 J30 ((x20.1).toNat + 1) x3 x7 (([] : List Str)) x20.2.1 ((0 : Int))))))))))) (fun J9 => (F_clockworkref31_Decode_L2 x1 J9 (((3 : Int)).toNat + 1) ((default : TMail)) ((List.replicate 3 (0 : Int))) ((0 : Int)) ((0 : Int)))))

set_option maxRecDepth 100000 in
theorem W_clockworkref31_Decode {V : View} (x1 : Str)   {r : TMail × Int} (hF : F_clockworkref31_Decode x1 = some r) :
    Spec Tryz.prog 32 [.string ⟨⟨x1⟩⟩] V (fun V' v => ∃ (a71 : Option Addr) (k71 : Nat) (a72 : Option Addr) (k72 : Nat), v = .tuple ⟨[.agg ⟨[.int .i64 (r.1.Txn), .int .i64 (r.1.From), .int .i64 (r.1.To), .slice a71 ((r.1.Keys).length) (k71), .slice a72 ((r.1.Pairs).length) (k72)]⟩, .int .i64 (r.2)]⟩ ∧ SlAt cStr V' a71 k71 r.1.Keys ∧ SlAt cTPair V' a72 k72 r.1.Pairs) := by
  unfold F_clockworkref31_Decode at hF
  refine Spec.enter (T := tyT) Tryz.func32 rfl (by kernel_rfl) rfl rfl rfl ?_
  refine Exec.run tyOk 22 rfl ?_
  refine Exec.fixA 1 (n := 3) (sz := 1) (cs := (List.replicate 3 (.int .i64 0))) rfl rfl rfl rfl rfl (fun _ => rfl) (fun _ => rfl) (fun b2 => ?_)
  have h2 : RowRep (cInt .i64) V (List.replicate 3 (0 : Int)) (List.replicate 3 [.int .i64 0]).flatten := RowRep.reps (c := (cInt .i64)) rfl 3
  rw [flat_one] at h2
  obtain ⟨J9, hJ9, hF⟩ := jn_some hF
  refine Exec.seam (fun L' V' M' => ∃ (x3 : TMail) (a4 : Option Addr) (k4 : Nat) (a5 : Option Addr) (k5 : Nat) (x7 : List Int) (cs6 : List Value) (x8 : Int), L' = [(0, .v (.string ⟨⟨x1⟩⟩)), (2, .ptr 0 0), (4, .v (.pointer (some ⟨b2, 0, none⟩))), (5, .v (.int .i64 (x8)))] ∧ M' = [.blk [.v (.int .i64 (x3.Txn)), .v (.int .i64 (x3.From)), .v (.int .i64 (x3.To)), .v (.slice a4 ((x3.Keys).length) (k4)), .v (.slice a5 ((x3.Pairs).length) (k5))] 50, .row (.slice ((some ⟨b2, 0, none⟩)) (3) (3)) cs6 98 1] ∧ SlAt cStr V' a4 k4 x3.Keys ∧ SlAt cTPair V' a5 k5 x3.Pairs ∧ RowRep (cInt .i64) V' x7 cs6 ∧ J9 x3 x7 x8 = some r) rfl ?_ ?_
  · rintro L' V10 M' ⟨x3, a4, k4, a5, k5, x7, cs6, x8, rfl, rfl, h4, h5, h6, hF⟩
    subst hJ9
    refine Exec.run tyOk 400 rfl ?_
    obtain ⟨q11, hF⟩ := req_some hF
    refine Exec.rowI 1 rfl (fun ra12 rb12 rc12 => ?_)
    obtain ⟨c13, hr13, hd13⟩ := h6.get q11
    obtain rfl := hr13
    have rl12 := RowRep.len h6
    refine Exec.iaA tyOk rfl rfl (ixA q11 rl12 ra12 (cInt .i64).pos) ?_
    refine Exec.run tyOk 400 rfl ?_
    refine Exec.ldR tyOk 1 (x := .int .i64 ((atI x7 ((0 : Int))))) rfl rfl rfl ⟨hd13, ⟨_, _, rfl⟩⟩ rfl rfl ?_
    refine Exec.run tyOk 400 rfl ?_
    obtain ⟨q14, hF⟩ := req_some hF
    refine Exec.rowI 1 rfl (fun ra15 rb15 rc15 => ?_)
    obtain ⟨c16, hr16, hd16⟩ := h6.get q14
    obtain rfl := hr16
    have rl15 := RowRep.len h6
    refine Exec.iaA tyOk rfl rfl (ixA q14 rl15 ra15 (cInt .i64).pos) ?_
    refine Exec.run tyOk 400 rfl ?_
    refine Exec.ldR tyOk 1 (x := .int .i64 ((atI x7 ((1 : Int))))) rfl rfl rfl ⟨hd16, ⟨_, _, rfl⟩⟩ rfl rfl ?_
    refine Exec.run tyOk 400 rfl ?_
    obtain ⟨q17, hF⟩ := req_some hF
    refine Exec.rowI 1 rfl (fun ra18 rb18 rc18 => ?_)
    obtain ⟨c19, hr19, hd19⟩ := h6.get q17
    obtain rfl := hr19
    have rl18 := RowRep.len h6
    refine Exec.iaA tyOk rfl rfl (ixA q17 rl18 ra18 (cInt .i64).pos) ?_
    refine Exec.run tyOk 400 rfl ?_
    refine Exec.ldR tyOk 1 (x := .int .i64 ((atI x7 ((2 : Int))))) rfl rfl rfl ⟨hd19, ⟨_, _, rfl⟩⟩ rfl rfl ?_
    refine Exec.run tyOk 400 rfl ?_
    obtain ⟨x20, hx20, hF⟩ := bnd_some hF
    refine Exec.callS (.tuple ⟨[.int .i64 (x20.1), .int .i64 (x20.2.1), .int .i64 (x20.2.2)]⟩) rfl rfl (W_clockworkref02_TakeCount x1 x8 ((64 : Int))  hx20) ?_
    refine Exec.run tyOk 400 rfl ?_
    rcases cond_some hF with ⟨hb, hF⟩ | ⟨hb, hF⟩
    · skip
      refine Exec.ifT rfl hb ?_
      refine Exec.run tyOk 400 rfl ?_
      obtain rfl := some_inj hF
      exact Exec.ret tyOk rfl rfl ⟨_, _, _, _, rfl, SlAt.nil, SlAt.nil⟩
    · skip
      refine Exec.ifF rfl hb ?_
      refine Exec.run tyOk 6 rfl ?_
      refine Exec.row0 9 1 rfl ?_
      have h21 : RowRep cStr V10 ([] : List Str) [] := RowRep.nil
      obtain ⟨J30, hJ30, hF⟩ := jn_some hF
      refine Exec.seam (fun L' V' M' => ∃ (x22 : TMail) (a23 : Option Addr) (k23 : Nat) (a24 : Option Addr) (k24 : Nat) (x26 : List Int) (cs25 : List Value) (x28 : List Str) (a27 : Option Addr) (k27 : Nat) (cs27 : List Value) (x29 : Int), L' = [(0, .v (.string ⟨⟨x1⟩⟩)), (2, .ptr 0 0), (5, .v (.int .i64 (x29))), (8, .ptr 2 0)] ∧ M' = [.blk [.v (.int .i64 (x22.Txn)), .v (.int .i64 (x22.From)), .v (.int .i64 (x22.To)), .v (.slice a23 ((x22.Keys).length) (k23)), .v (.slice a24 ((x22.Pairs).length) (k24))] 50, .row (.slice ((some ⟨b2, 0, none⟩)) (3) (3)) cs25 98 1, .blk [.v (.int .i64 ((atI x7 ((0 : Int))))), .v (.int .i64 ((atI x7 ((1 : Int))))), .v (.int .i64 ((atI x7 ((2 : Int))))), .v (.slice a27 ((x28).length) (k27)), .v (.slice none (0) (0))] 50, .row (.slice a27 ((x28).length) (k27)) cs27 9 1] ∧ SlAt cStr V' a23 k23 x22.Keys ∧ SlAt cTPair V' a24 k24 x22.Pairs ∧ RowRep (cInt .i64) V' x26 cs25 ∧ RowRep cStr V' x28 cs27 ∧ J30 x22 x26 x28 x29 = some r) rfl ?_ ?_
      · rintro L' V31 M' ⟨x22, a23, k23, a24, k24, x26, cs25, x28, a27, k27, cs27, x29, rfl, rfl, h23, h24, h25, h27, hF⟩
        subst hJ30
        refine Exec.run tyOk 400 rfl ?_
        obtain ⟨x32, hx32, hF⟩ := bnd_some hF
        refine Exec.call rfl rfl (W_clockworkref06_Decode x1 x29  hx32) ?_
        rintro V34 _ hv34 ⟨a33, k33, rfl, h33⟩
        have h35 := SlAt.mono h23 hv34
        have h36 := SlAt.mono h24 hv34
        have h37 := RowRep.mono hv34 h25
        have h38 := RowRep.mono hv34 h27
        refine Exec.run tyOk 400 rfl ?_
        rcases cond_some hF with ⟨hb, hF⟩ | ⟨hb, hF⟩
        · skip
          refine Exec.ifT rfl hb ?_
          refine Exec.run tyOk 400 rfl ?_
          obtain rfl := some_inj hF
          exact Exec.ret tyOk rfl rfl ⟨_, _, _, _, rfl, SlAt.nil, SlAt.nil⟩
        · skip
          refine Exec.ifF rfl hb ?_
          refine Exec.run tyOk 400 rfl ?_
          obtain ⟨x39, hx39, hF⟩ := bnd_some hF
          refine Exec.callL (.bool (x39)) rfl rfl (fun _ hv hl => fun gg0 => W_clockworkref31_Valid ((⟨(atI x7 ((0 : Int))), (atI x7 ((1 : Int))), (atI x7 ((2 : Int))), x28, x32.1⟩ : TMail)) (RowRep.slat h38 hv (hl 3 _ _ _ _ _ _ rfl).1 (hl 3 _ _ _ _ _ _ rfl).2) (SlAt.mono h33 hv) (gcall_some hx39 (gd1_of gg0))) ?_
          refine Exec.run tyOk 400 rfl ?_
          rcases cond_some hF with ⟨hb, hF⟩ | ⟨hb, hF⟩
          · skip
            refine Exec.ifT rfl hb ?_
            refine Exec.run tyOk 400 rfl ?_
            obtain rfl := some_inj hF
            exact Exec.ret tyOk rfl rfl ⟨_, _, _, _, rfl, SlAt.nil, SlAt.nil⟩
          · skip
            refine Exec.ifF rfl hb ?_
            refine Exec.run tyOk 400 rfl ?_
            refine Exec.frz 3 rfl rfl rfl (fun V40 hv40 hd40 hn40 => ?_)
            have hz40 := RowRep.slat h38 hv40 hd40 hn40
            have h41 := SlAt.mono h33 hv40
            have h42 := RowRep.mono hv40 h37
            obtain rfl := some_inj hF
            exact Exec.ret tyOk rfl rfl ⟨_, _, _, _, rfl, hz40, h41⟩
      · skip
        refine Exec.run tyOk 400 rfl ?_
        refine Exec.loop (fun n52 L' V' M' => ∃ (x43 : TMail) (a44 : Option Addr) (k44 : Nat) (a45 : Option Addr) (k45 : Nat) (x47 : List Int) (cs46 : List Value) (x49 : List Str) (a48 : Option Addr) (k48 : Nat) (cs48 : List Value) (x50 : Int) (x51 : Int), L' = [(0, .v (.string ⟨⟨x1⟩⟩)), (2, .ptr 0 0), (5, .v (.int .i64 (x50))), (8, .ptr 2 0), (9, .v (.int .i64 (x20.1))), (10, .v (.int .i64 (x51)))] ∧ M' = [.blk [.v (.int .i64 (x43.Txn)), .v (.int .i64 (x43.From)), .v (.int .i64 (x43.To)), .v (.slice a44 ((x43.Keys).length) (k44)), .v (.slice a45 ((x43.Pairs).length) (k45))] 50, .row (.slice ((some ⟨b2, 0, none⟩)) (3) (3)) cs46 98 1, .blk [.v (.int .i64 ((atI x7 ((0 : Int))))), .v (.int .i64 ((atI x7 ((1 : Int))))), .v (.int .i64 ((atI x7 ((2 : Int))))), .v (.slice a48 ((x49).length) (k48)), .v (.slice none (0) (0))] 50, .row (.slice a48 ((x49).length) (k48)) cs48 9 1] ∧ SlAt cStr V' a44 k44 x43.Keys ∧ SlAt cTPair V' a45 k45 x43.Pairs ∧ RowRep (cInt .i64) V' x47 cs46 ∧ RowRep cStr V' x49 cs48 ∧ F_clockworkref31_Decode_L1 x20 x1 J30 n52 x43 x47 x49 x50 x51 = some r) ⟨((x20.1).toNat + 1), [(0, .v (.string ⟨⟨x1⟩⟩)), (2, .ptr 0 0), (5, .v (.int .i64 (x20.2.1))), (8, .ptr 2 0), (9, .v (.int .i64 (x20.1))), (10, .v (.int .i64 ((0 : Int))))], ⟨rfl, rfl, rfl, rfl, rfl, rfl, trivial⟩, x3, a4, k4, a5, k5, x7, cs6, ([] : List Str), none, 0, [], x20.2.1, (0 : Int), rfl, rfl, h4, h5, h6, h21, hF⟩ ?_
        rintro n52 L' V53 M' ⟨x43, a44, k44, a45, k45, x47, cs46, x49, a48, k48, cs48, x50, x51, rfl, rfl, h44, h45, h46, h48, hF⟩
        rcases n52 with _ | n52
        · exact absurd hF (by simp [F_clockworkref31_Decode_L1])
        rw [F_clockworkref31_Decode_L1] at hF
        refine Exec.run tyOk 400 rfl ?_
        rcases cond_some hF with ⟨hb, hF⟩ | ⟨hb, hF⟩
        · skip
          refine Exec.ifT rfl hb ?_
          refine Exec.run tyOk 400 rfl ?_
          obtain ⟨x54, hx54, hF⟩ := bnd_some hF
          refine Exec.callS (.tuple ⟨[.string ⟨⟨x54.1⟩⟩, .int .i64 (x54.2.1), .int .i64 (x54.2.2)]⟩) rfl rfl (W_clockworkref02_TakeText x1 x50 ((24 : Int))  hx54) ?_
          refine Exec.run tyOk 400 rfl ?_
          rcases cond_some hF with ⟨hb, hF⟩ | ⟨hb, hF⟩
          · skip
            refine Exec.ifT rfl hb ?_
            refine Exec.run tyOk 400 rfl ?_
            obtain rfl := some_inj hF
            exact Exec.ret tyOk rfl rfl ⟨_, _, _, _, rfl, SlAt.nil, SlAt.nil⟩
          · skip
            refine Exec.ifF rfl hb ?_
            refine Exec.run tyOk 400 rfl ?_
            refine Exec.bsl tyOk rfl rfl ?_
            refine Exec.run tyOk 400 rfl ?_
            obtain ⟨q56, hF⟩ := req_some hF
            refine Exec.app tyOk 3 4 (nm := ((x49 ++ [x54.1])).length) rfl rfl rfl rfl rfl rfl rfl rfl rfl (by simp) (fun _ _ => rfl) rfl q56 (fun a55 k55 => ?_)
            have h55 : RowRep cStr V53 (x49 ++ [x54.1]) (cs48 ++ [.string ⟨⟨x54.1⟩⟩]) := RowRep.app h48 ⟨_, _, rfl, rfl, rfl⟩
            refine Exec.run tyOk 400 rfl ?_
            refine Exec.cut 4 [(0, .v (.string ⟨⟨x1⟩⟩)), (2, .ptr 0 0), (5, .v (.int .i64 (x54.2.1))), (8, .ptr 2 0), (9, .v (.int .i64 (x20.1))), (10, .v (.int .i64 ((IntKind.i64.wrap (x51 + (1 : Int))))))] (M' := [.blk [.v (.int .i64 (x43.Txn)), .v (.int .i64 (x43.From)), .v (.int .i64 (x43.To)), .v (.slice a44 ((x43.Keys).length) (k44)), .v (.slice a45 ((x43.Pairs).length) (k45))] 50, .row (.slice ((some ⟨b2, 0, none⟩)) (3) (3)) cs46 98 1, .blk [.v (.int .i64 ((atI x7 ((0 : Int))))), .v (.int .i64 ((atI x7 ((1 : Int))))), .v (.int .i64 ((atI x7 ((2 : Int))))), .v (.slice a55 (((x49 ++ [x54.1])).length) (k55)), .v (.slice none (0) (0))] 50, .row (.slice a55 (((x49 ++ [x54.1])).length) (k55)) ((cs48 ++ [.string ⟨⟨x54.1⟩⟩])) 9 1]) rfl ⟨rfl, rfl, rfl, rfl, rfl, rfl, trivial⟩ rfl rfl rfl ?_
            exact Exec.round [(0, .v (.string ⟨⟨x1⟩⟩)), (2, .ptr 0 0), (5, .v (.int .i64 (x54.2.1))), (8, .ptr 2 0), (9, .v (.int .i64 (x20.1))), (10, .v (.int .i64 ((IntKind.i64.wrap (x51 + (1 : Int))))))] ⟨rfl, rfl, rfl, rfl, rfl, rfl, trivial⟩ ⟨n52, Nat.lt_succ_self _, x43, a44, k44, a45, k45, x47, cs46, (x49 ++ [x54.1]), a55, k55, (cs48 ++ [.string ⟨⟨x54.1⟩⟩]), x54.2.1, (IntKind.i64.wrap (x51 + (1 : Int))), rfl, rfl, h44, h45, h46, h55, hF⟩
        · skip
          refine Exec.ifF rfl hb ?_
          refine Exec.run tyOk 400 rfl ?_
          exact Exec.round [(0, .v (.string ⟨⟨x1⟩⟩)), (2, .ptr 0 0), (5, .v (.int .i64 (x50))), (8, .ptr 2 0)] ⟨rfl, rfl, rfl, rfl, trivial⟩ ⟨x43, a44, k44, a45, k45, x47, cs46, x49, a48, k48, cs48, x50, rfl, rfl, h44, h45, h46, h48, hF⟩
  · skip
    refine Exec.run tyOk 400 rfl ?_
    refine Exec.loop (fun n64 L' V' M' => ∃ (x57 : TMail) (a58 : Option Addr) (k58 : Nat) (a59 : Option Addr) (k59 : Nat) (x61 : List Int) (cs60 : List Value) (x62 : Int) (x63 : Int), L' = [(0, .v (.string ⟨⟨x1⟩⟩)), (2, .ptr 0 0), (4, .v (.pointer (some ⟨b2, 0, none⟩))), (5, .v (.int .i64 (x62))), (7, .v (.int .i64 (x63)))] ∧ M' = [.blk [.v (.int .i64 (x57.Txn)), .v (.int .i64 (x57.From)), .v (.int .i64 (x57.To)), .v (.slice a58 ((x57.Keys).length) (k58)), .v (.slice a59 ((x57.Pairs).length) (k59))] 50, .row (.slice ((some ⟨b2, 0, none⟩)) (3) (3)) cs60 98 1] ∧ SlAt cStr V' a58 k58 x57.Keys ∧ SlAt cTPair V' a59 k59 x57.Pairs ∧ RowRep (cInt .i64) V' x61 cs60 ∧ F_clockworkref31_Decode_L2 x1 J9 n64 x57 x61 x62 x63 = some r) ⟨(((3 : Int)).toNat + 1), [(0, .v (.string ⟨⟨x1⟩⟩)), (2, .ptr 0 0), (4, .v (.pointer (some ⟨b2, 0, none⟩))), (5, .v (.int .i64 ((0 : Int)))), (7, .v (.int .i64 ((0 : Int))))], ⟨rfl, rfl, rfl, rfl, rfl, trivial⟩, (default : TMail), none, 0, none, 0, (List.replicate 3 (0 : Int)), (List.replicate 3 (.int .i64 0)), (0 : Int), (0 : Int), rfl, rfl, SlAt.nil, SlAt.nil, h2, hF⟩ ?_
    rintro n64 L' V65 M' ⟨x57, a58, k58, a59, k59, x61, cs60, x62, x63, rfl, rfl, h58, h59, h60, hF⟩
    rcases n64 with _ | n64
    · exact absurd hF (by simp [F_clockworkref31_Decode_L2])
    rw [F_clockworkref31_Decode_L2] at hF
    refine Exec.run tyOk 400 rfl ?_
    rcases cond_some hF with ⟨hb, hF⟩ | ⟨hb, hF⟩
    · skip
      refine Exec.ifT rfl hb ?_
      refine Exec.run tyOk 400 rfl ?_
      obtain ⟨x66, hx66, hF⟩ := bnd_some hF
      refine Exec.callS (.tuple ⟨[.int .i64 (x66.1), .int .i64 (x66.2.1), .int .i64 (x66.2.2)]⟩) rfl rfl (W_clockworkref02_TakeInt x1 x62  hx66) ?_
      refine Exec.run tyOk 400 rfl ?_
      obtain ⟨q67, hF⟩ := req_some hF
      refine Exec.rowI 1 rfl (fun ra68 rb68 rc68 => ?_)
      obtain ⟨c69, hr69, hd69⟩ := h60.get q67
      obtain rfl := hr69
      have rl68 := RowRep.len h60
      refine Exec.iaA tyOk rfl rfl (ixA q67 rl68 ra68 (cInt .i64).pos) ?_
      refine Exec.run tyOk 400 rfl ?_
      have rl70 := RowRep.len h60
      have h70 : RowRep (cInt .i64) V65 (x61.set (x63).toNat x66.1) (cs60.take ((x63).toNat * 1) ++ [.int .i64 (x66.1)] ++ cs60.drop (((x63).toNat * 1) + 1)) := RowRep.set h60 q67 rfl
      refine Exec.stR tyOk 1 rfl rfl rfl rfl rfl ⟨_, _, rfl⟩ (stB q67 rl70) rfl rfl rfl ?_
      refine Exec.run tyOk 400 rfl ?_
      rcases cond_some hF with ⟨hb, hF⟩ | ⟨hb, hF⟩
      · skip
        refine Exec.ifT rfl hb ?_
        refine Exec.run tyOk 400 rfl ?_
        obtain rfl := some_inj hF
        exact Exec.ret tyOk rfl rfl ⟨_, _, _, _, rfl, SlAt.nil, SlAt.nil⟩
      · skip
        refine Exec.ifF rfl hb ?_
        refine Exec.run tyOk 400 rfl ?_
        exact Exec.round [(0, .v (.string ⟨⟨x1⟩⟩)), (2, .ptr 0 0), (4, .v (.pointer (some ⟨b2, 0, none⟩))), (5, .v (.int .i64 (x66.2.1))), (7, .v (.int .i64 ((IntKind.i64.wrap (x63 + (1 : Int))))))] ⟨rfl, rfl, rfl, rfl, rfl, trivial⟩ ⟨n64, Nat.lt_succ_self _, x57, a58, k58, a59, k59, (x61.set (x63).toNat x66.1), (cs60.take ((x63).toNat * 1) ++ [.int .i64 (x66.1)] ++ cs60.drop (((x63).toNat * 1) + 1)), x66.2.1, (IntKind.i64.wrap (x63 + (1 : Int))), rfl, rfl, h58, h59, h70, hF⟩
    · skip
      refine Exec.ifF rfl hb ?_
      refine Exec.run tyOk 400 rfl ?_
      exact Exec.round [(0, .v (.string ⟨⟨x1⟩⟩)), (2, .ptr 0 0), (4, .v (.pointer (some ⟨b2, 0, none⟩))), (5, .v (.int .i64 (x62)))] ⟨rfl, rfl, rfl, rfl, trivial⟩ ⟨x57, a58, k58, a59, k59, x61, cs60, x62, rfl, rfl, h58, h59, h60, hF⟩

-- uses W_wire_Int W_wire_Uint W_wire_Text W_state_Encode
theorem run_bld3 (a b c : Int) (w : World) : (Instr.build 89 ⟨[(0, .int .i64 a), (1, .int .i64 b), (2, .int .i64 c)]⟩).run Tryz.prog w = .ok (.agg ⟨[.int .i64 a, .int .i64 b, .int .i64 c]⟩) w := by
  simp [Instr.build, Tryz.zeroValue89, run_underlying Tryz.underlying89, Tryz.sizeOf3, Instr.fill, Value.cells]

theorem run_idx3 (a b c i : Int) (h : 0 ≤ i ∧ i < 3) (w : World) : (Instr.index 89 (.agg ⟨[.int .i64 a, .int .i64 b, .int .i64 c]⟩) (.int .i64 i)).run Tryz.prog w = .ok (.int .i64 (atI [a, b, c] i)) w := by
  obtain ⟨h1, h2⟩ := h
  have hi : i = 0 ∨ i = 1 ∨ i = 2 := by omega
  rcases hi with rfl | rfl | rfl <;>
    simp [Instr.index, asIntOf, run_underlying Tryz.underlying89, Tryz.sizeOf3, Tryz.isAgg3, part, atI]

def F_exchange_Encode_L1 (x1 : TMail) (J : Str → Option Str) : Nat → Str → Int → Option Str
  | 0, _, _ => none
  | n8 + 1, s, x7 => cond (decide (x7 < (3 : Int))) (req (0 ≤ x7 ∧ x7 < 3) (bnd (F_wire_Int (atI [(x1.Txn), (x1.From), (x1.To)] x7)) fun x20 => bnd (bWrite s x20) fun y1 => F_exchange_Encode_L1 x1 J n8 y1 (IntKind.i64.wrap (x7 + (1 : Int))))) (J s)
def F_exchange_Encode_L2 (x1 : TMail) (J : Str → Option Str) : Nat → Str → Int → Option Str
  | 0, _, _ => none
  | n8 + 1, s, x7 => cond (decide (x7 < (((x1.Keys).length : Nat) : Int))) (req (0 ≤ x7 ∧ x7 < ((x1.Keys).length : Int)) (bnd (F_wire_Text (atI x1.Keys x7)) fun x20 => bnd (bWrite s x20) fun y1 => F_exchange_Encode_L2 x1 J n8 y1 (IntKind.i64.wrap (x7 + (1 : Int))))) (J s)

def F_exchange_Encode (x1 : TMail) : Option Str :=
  jn (fun (s : Str) => bnd (F_wire_Uint (IntKind.u64.wrap (((x1.Keys).length : Nat) : Int))) fun x9 => bnd (bWrite s x9) fun y0 =>
      jn (fun (s : Str) => bnd (F_state_Encode x1.Pairs) fun x10 => bnd (bWrite s x10) fun y1 => req (y1 ≠ []) (some y1)) fun J2 => F_exchange_Encode_L2 x1 J2 ((((x1.Keys).length : Nat) : Int).toNat + 1) y0 0)
    fun J => F_exchange_Encode_L1 x1 J ((3 : Int).toNat + 1) [] 0

set_option maxRecDepth 100000 in
theorem W_exchange_Encode {V : View} (x1 : TMail) {a2 : Option Addr} {k2 : Nat} {a3 : Option Addr} {k3 : Nat} (h2 : SlAt cStr V a2 k2 x1.Keys) (h3 : SlAt cTPair V a3 k3 x1.Pairs) {r : Str} (hF : F_exchange_Encode x1 = some r) :
    Spec Tryz.prog 33 [.agg ⟨[.int .i64 (x1.Txn), .int .i64 (x1.From), .int .i64 (x1.To), .slice a2 ((x1.Keys).length) (k2), .slice a3 ((x1.Pairs).length) (k3)]⟩] V (fun _ v => v = .string ⟨⟨r⟩⟩) := by
  unfold F_exchange_Encode at hF
  refine Spec.enter (T := tyT) Tryz.func33 rfl (by kernel_rfl) rfl rfl rfl ?_
  refine Exec.run tyOk 400 rfl ?_
  refine Exec.fixR 1 (n := 1) (sz := 2) rfl rfl rfl rfl rfl (fun _ => rfl) (fun _ => rfl) (fun _ => rfl) (fun b => ?_)
  refine Exec.row0 5 1 rfl ?_
  refine Exec.bldP rfl rfl rfl (run_bld3 _ _ _) ?_
  refine Exec.run tyOk 2 rfl ?_
  obtain ⟨J5, hJ5, hF⟩ := jn_some hF
  refine Exec.seam (fun L' V' M' => ∃ (s : Str) (p a : Option Addr) (k : Nat), L' = [(1, .ptr 0 0), (3, .v (.pointer (some ⟨b, 0, none⟩)))] ∧ M' = [.blk [.v (.int .i64 (x1.Txn)), .v (.int .i64 (x1.From)), .v (.int .i64 (x1.To)), .v (.slice a2 ((x1.Keys).length) (k2)), .v (.slice a3 ((x1.Pairs).length) (k3))] 50, .row (.slice (some ⟨b, 0, none⟩) 1 1) [.pointer p, .slice a (s).length k] 102 2, .row (.slice a (s).length k) (Lib.byteCells s) 5 1] ∧ (p = none ∨ p = some ⟨b, 0, none⟩) ∧ SlAt cStr V' a2 k2 x1.Keys ∧ SlAt cTPair V' a3 k3 x1.Pairs ∧ J5 s = some r) rfl ?_ ?_
  · rintro L' V6 M' ⟨s, p, a, k, rfl, rfl, hp, h2, h3, hF⟩
    subst hJ5
    refine Exec.run tyOk 400 rfl ?_
    obtain ⟨x9, hx9, hF⟩ := bnd_some hF
    refine Exec.callS (.string ⟨⟨x9⟩⟩) rfl rfl (W_wire_Uint _ hx9) ?_
    refine Exec.run tyOk 400 rfl ?_
    obtain ⟨y0, hy0, hF⟩ := bnd_some hF
    refine Exec.callR [1, 2] (rs := [_, _]) rfl rfl rfl rfl rfl rfl (X_WriteString b s x9 ⟨p, a, k, hp, rfl, rfl⟩ hy0) ?_
    clear hp
    rintro Vy0 _ _ hvy0 ⟨rfl, q0, q1, rfl, p, a, k, hp, rfl, rfl⟩
    refine ⟨_, rfl, ?_⟩
    replace h2 := SlAt.mono h2 hvy0
    replace h3 := SlAt.mono h3 hvy0
    refine Exec.run tyOk 9 rfl ?_
    obtain ⟨J7, hJ7, hF⟩ := jn_some hF
    refine Exec.seam (fun L' V' M' => ∃ (s : Str) (p a : Option Addr) (k : Nat), L' = [(1, .ptr 0 0), (3, .v (.pointer (some ⟨b, 0, none⟩)))] ∧ M' = [.blk [.v (.int .i64 (x1.Txn)), .v (.int .i64 (x1.From)), .v (.int .i64 (x1.To)), .v (.slice a2 ((x1.Keys).length) (k2)), .v (.slice a3 ((x1.Pairs).length) (k3))] 50, .row (.slice (some ⟨b, 0, none⟩) 1 1) [.pointer p, .slice a (s).length k] 102 2, .row (.slice a (s).length k) (Lib.byteCells s) 5 1] ∧ (p = none ∨ p = some ⟨b, 0, none⟩) ∧ SlAt cStr V' a2 k2 x1.Keys ∧ SlAt cTPair V' a3 k3 x1.Pairs ∧ J7 s = some r) rfl ?_ ?_
    · clear hp h2 h3 hF p a k hvy0
      rintro L' V8 M' ⟨s, p, a, k, rfl, rfl, hp, h2, h3, hF⟩
      subst hJ7
      refine Exec.run tyOk 400 rfl ?_
      obtain ⟨x10, hx10, hF⟩ := bnd_some hF
      refine Exec.callS (.string ⟨⟨x10⟩⟩) rfl rfl (W_state_Encode x1.Pairs h3 hx10) ?_
      refine Exec.run tyOk 400 rfl ?_
      obtain ⟨y1, hy1, hF⟩ := bnd_some hF
      refine Exec.callR [1, 2] (rs := [_, _]) rfl rfl rfl rfl rfl rfl (X_WriteString b s x10 ⟨p, a, k, hp, rfl, rfl⟩ hy1) ?_
      clear hp
      rintro Vy1 _ _ hvy1 ⟨rfl, q0, q1, rfl, p, a, k, hp, rfl, rfl⟩
      refine ⟨_, rfl, ?_⟩
      replace h2 := SlAt.mono h2 hvy1
      replace h3 := SlAt.mono h3 hvy1
      refine Exec.run tyOk 400 rfl ?_
      obtain ⟨q9, hF⟩ := req_some hF
      obtain rfl := some_inj hF
      refine Exec.callR [1, 2] (rs := [_, _]) rfl rfl rfl rfl rfl rfl (X_String b y1 ⟨p, a, k, hp, rfl, rfl⟩ q9) ?_
      rintro V10 _ rs' hv10 ⟨rfl, q0, q1, rfl⟩
      refine ⟨_, rfl, ?_⟩
      refine Exec.run tyOk 400 rfl ?_
      exact Exec.ret tyOk rfl rfl rfl
    · skip
      refine Exec.run tyOk 400 rfl ?_
      refine Exec.loop (fun n8 L' V' M' => ∃ (s : Str) (p a : Option Addr) (k : Nat) (x7 : Int), L' = [(1, .ptr 0 0), (3, .v (.pointer (some ⟨b, 0, none⟩))), (29, .v (.slice a2 ((x1.Keys).length) (k2))), (30, .v (.int .i64 (((x1.Keys).length : Nat) : Int))), (31, .v (.int .i64 (x7)))] ∧ M' = [.blk [.v (.int .i64 (x1.Txn)), .v (.int .i64 (x1.From)), .v (.int .i64 (x1.To)), .v (.slice a2 ((x1.Keys).length) (k2)), .v (.slice a3 ((x1.Pairs).length) (k3))] 50, .row (.slice (some ⟨b, 0, none⟩) 1 1) [.pointer p, .slice a (s).length k] 102 2, .row (.slice a (s).length k) (Lib.byteCells s) 5 1] ∧ (p = none ∨ p = some ⟨b, 0, none⟩) ∧ SlAt cStr V' a2 k2 x1.Keys ∧ SlAt cTPair V' a3 k3 x1.Pairs ∧ F_exchange_Encode_L2 x1 J7 n8 s x7 = some r) ⟨((((x1.Keys).length : Nat) : Int).toNat + 1), [(1, .ptr 0 0), (3, .v (.pointer (some ⟨b, 0, none⟩))), (29, .v (.slice a2 ((x1.Keys).length) (k2))), (30, .v (.int .i64 (((x1.Keys).length : Nat) : Int))), (31, .v (.int .i64 ((0 : Int))))], ⟨rfl, rfl, rfl, rfl, rfl, trivial⟩, y0, p, a, k, (0 : Int), rfl, rfl, hp, h2, h3, hF⟩ ?_
      clear h2 h3 hF hp p a k hvy0
      rintro n8 L' V9 M' ⟨s, p, a, k, x7, rfl, rfl, hp, h2, h3, hF⟩
      rcases n8 with _ | n8
      · exact absurd hF (by simp [F_exchange_Encode_L2])
      rw [F_exchange_Encode_L2] at hF
      refine Exec.run tyOk 400 rfl ?_
      rcases cond_some hF with ⟨hb, hF⟩ | ⟨hb, hF⟩
      · skip
        refine Exec.ifT rfl hb ?_
        refine Exec.run tyOk 400 rfl ?_
        obtain ⟨q14, hF⟩ := req_some hF
        obtain ⟨c15, hr15, hd15⟩ := SlAt.get h2 q14
        obtain rfl := hr15
        refine Exec.ia tyOk rfl rfl ⟨q14.1, q14.2, hd15.some⟩ ?_
        refine Exec.run tyOk 400 rfl ?_
        refine Exec.ld tyOk (x := .string ⟨⟨(atI x1.Keys x7)⟩⟩) rfl rfl hd15 rfl rfl ?_
        refine Exec.run tyOk 400 rfl ?_
        obtain ⟨x20, hx20, hF⟩ := bnd_some hF
        refine Exec.callS (.string ⟨⟨x20⟩⟩) rfl rfl (W_wire_Text _ hx20) ?_
        refine Exec.run tyOk 400 rfl ?_
        obtain ⟨y1, hy1, hF⟩ := bnd_some hF
        refine Exec.callR [1, 2] (rs := [_, _]) rfl rfl rfl rfl rfl rfl (X_WriteString b s x20 ⟨p, a, k, hp, rfl, rfl⟩ hy1) ?_
        clear hp
        rintro Vy1 _ _ hvy1 ⟨rfl, q0, q1, rfl, p, a, k, hp, rfl, rfl⟩
        refine ⟨_, rfl, ?_⟩
        replace h2 := SlAt.mono h2 hvy1
        replace h3 := SlAt.mono h3 hvy1
        refine Exec.run tyOk 400 rfl ?_
        exact Exec.round [(1, .ptr 0 0), (3, .v (.pointer (some ⟨b, 0, none⟩))), (29, .v (.slice a2 ((x1.Keys).length) (k2))), (30, .v (.int .i64 (((x1.Keys).length : Nat) : Int))), (31, .v (.int .i64 (IntKind.i64.wrap (x7 + (1 : Int)))))] ⟨rfl, rfl, rfl, rfl, rfl, trivial⟩ ⟨n8, Nat.lt_succ_self _, y1, p, a, k, IntKind.i64.wrap (x7 + (1 : Int)), rfl, rfl, hp, h2, h3, hF⟩
      · skip
        refine Exec.ifF rfl hb ?_
        refine Exec.run tyOk 400 rfl ?_
        exact Exec.round [(1, .ptr 0 0), (3, .v (.pointer (some ⟨b, 0, none⟩)))] ⟨rfl, rfl, trivial⟩ ⟨s, p, a, k, rfl, rfl, hp, h2, h3, hF⟩
  · skip
    refine Exec.run tyOk 400 rfl ?_
    refine Exec.loop (fun n8 L' V' M' => ∃ (s : Str) (p a : Option Addr) (k : Nat) (x7 : Int), L' = [(1, .ptr 0 0), (3, .v (.pointer (some ⟨b, 0, none⟩))), (14, .v (.agg ⟨[.int .i64 (x1.Txn), .int .i64 (x1.From), .int .i64 (x1.To)]⟩)), (15, .v (.int .i64 (x7)))] ∧ M' = [.blk [.v (.int .i64 (x1.Txn)), .v (.int .i64 (x1.From)), .v (.int .i64 (x1.To)), .v (.slice a2 ((x1.Keys).length) (k2)), .v (.slice a3 ((x1.Pairs).length) (k3))] 50, .row (.slice (some ⟨b, 0, none⟩) 1 1) [.pointer p, .slice a (s).length k] 102 2, .row (.slice a (s).length k) (Lib.byteCells s) 5 1] ∧ (p = none ∨ p = some ⟨b, 0, none⟩) ∧ SlAt cStr V' a2 k2 x1.Keys ∧ SlAt cTPair V' a3 k3 x1.Pairs ∧ F_exchange_Encode_L1 x1 J5 n8 s x7 = some r) ⟨((3 : Int).toNat + 1), [(1, .ptr 0 0), (3, .v (.pointer (some ⟨b, 0, none⟩))), (14, .v (.agg ⟨[.int .i64 (x1.Txn), .int .i64 (x1.From), .int .i64 (x1.To)]⟩)), (15, .v (.int .i64 ((0 : Int))))], ⟨rfl, rfl, rfl, rfl, trivial⟩, ([] : Str), none, none, 0, (0 : Int), rfl, rfl, .inl rfl, h2, h3, hF⟩ ?_
    clear h2 h3 hF 
    rintro n8 L' V9 M' ⟨s, p, a, k, x7, rfl, rfl, hp, h2, h3, hF⟩
    rcases n8 with _ | n8
    · exact absurd hF (by simp [F_exchange_Encode_L1])
    rw [F_exchange_Encode_L1] at hF
    refine Exec.run tyOk 400 rfl ?_
    rcases cond_some hF with ⟨hb, hF⟩ | ⟨hb, hF⟩
    · skip
      refine Exec.ifT rfl hb ?_
      refine Exec.run tyOk 400 rfl ?_
      obtain ⟨q14, hF⟩ := req_some hF
      refine Exec.idxA rfl rfl rfl rfl (run_idx3 _ _ _ x7 q14) ?_
      refine Exec.run tyOk 400 rfl ?_
      obtain ⟨x20, hx20, hF⟩ := bnd_some hF
      refine Exec.callS (.string ⟨⟨x20⟩⟩) rfl rfl (W_wire_Int _ hx20) ?_
      refine Exec.run tyOk 400 rfl ?_
      obtain ⟨y1, hy1, hF⟩ := bnd_some hF
      refine Exec.callR [1, 2] (rs := [_, _]) rfl rfl rfl rfl rfl rfl (X_WriteString b s x20 ⟨p, a, k, hp, rfl, rfl⟩ hy1) ?_
      clear hp
      rintro Vy1 _ _ hvy1 ⟨rfl, q0, q1, rfl, p, a, k, hp, rfl, rfl⟩
      refine ⟨_, rfl, ?_⟩
      replace h2 := SlAt.mono h2 hvy1
      replace h3 := SlAt.mono h3 hvy1
      refine Exec.run tyOk 400 rfl ?_
      exact Exec.round [(1, .ptr 0 0), (3, .v (.pointer (some ⟨b, 0, none⟩))), (14, .v (.agg ⟨[.int .i64 (x1.Txn), .int .i64 (x1.From), .int .i64 (x1.To)]⟩)), (15, .v (.int .i64 (IntKind.i64.wrap (x7 + (1 : Int)))))] ⟨rfl, rfl, rfl, rfl, trivial⟩ ⟨n8, Nat.lt_succ_self _, y1, p, a, k, IntKind.i64.wrap (x7 + (1 : Int)), rfl, rfl, hp, h2, h3, hF⟩
    · skip
      refine Exec.ifF rfl hb ?_
      refine Exec.run tyOk 400 rfl ?_
      exact Exec.round [(1, .ptr 0 0), (3, .v (.pointer (some ⟨b, 0, none⟩)))] ⟨rfl, rfl, trivial⟩ ⟨s, p, a, k, rfl, rfl, hp, h2, h3, hF⟩

def F_exchange_valid (x1 : TPlacement) (x3 : TShard) (x5 : TFootprint) : Option Bool :=
  (bnd (F_placement_Valid x1) fun x8 => (bnd (gcall ((x8) == true) (F_footprint_Valid x5)) fun x9 => (bnd (gcall (((x8 && x9)) == true) (F_state_Valid x3.Pairs)) fun x10 => (some ((x8 && x9) && x10)))))

set_option maxRecDepth 100000 in
theorem W_exchange_valid {V : View} (x1 : TPlacement) (x3 : TShard) (x5 : TFootprint) {a2 : Option Addr} {k2 : Nat} {a4 : Option Addr} {k4 : Nat} {a6 : Option Addr} {k6 : Nat} {a7 : Option Addr} {k7 : Nat} (h2 : SlAt cTPart V a2 k2 x1.Parts) (h4 : SlAt cTPair V a4 k4 x3.Pairs) (h6 : SlAt cStr V a6 k6 x5.Reads) (h7 : SlAt cStr V a7 k7 x5.Writes) {r : Bool} (hF : F_exchange_valid x1 x3 x5 = some r) :
    Spec Tryz.prog 48 [.agg ⟨[.int .i64 (x1.Version), .slice a2 ((x1.Parts).length) (k2)]⟩, .agg ⟨[.int .i64 (x3.Node), .slice a4 ((x3.Pairs).length) (k4)]⟩, .agg ⟨[.bool (x5.All), .slice a6 ((x5.Reads).length) (k6), .slice a7 ((x5.Writes).length) (k7)]⟩] V (fun _ v => v = .bool (r)) := by
  unfold F_exchange_valid at hF
  refine Spec.enter (T := tyT) Tryz.func48 rfl (by kernel_rfl) rfl rfl rfl ?_
  refine Exec.run tyOk 400 rfl ?_
  obtain ⟨x8, hx8, hF⟩ := bnd_some hF
  refine Exec.callS (.bool (x8)) rfl rfl (W_placement_Valid x1 h2 hx8) ?_
  refine Exec.run tyOk 400 rfl ?_
  obtain ⟨x9, hx9, hF⟩ := bnd_some hF
  refine Exec.callS (.bool (x9)) rfl rfl (fun gg0 => W_footprint_Valid x5 h6 h7 (gcall_some hx9 (gd1_of gg0))) ?_
  refine Exec.run tyOk 400 rfl ?_
  obtain ⟨x10, hx10, hF⟩ := bnd_some hF
  refine Exec.callS (.bool (x10)) rfl rfl (fun gg0 => W_state_Valid x3.Pairs h4 (gcall_some hx10 (gd1_of gg0))) ?_
  refine Exec.run tyOk 400 rfl ?_
  obtain rfl := some_inj hF
  exact Exec.ret tyOk rfl rfl rfl

section
open Go.RowKit Go.Proofs
-- uses W_route_Nodes


def F_route_Active (x1 : TPlacement) (x3 : TFootprint) : Option (List Int) :=
  bnd (F_route_valid x1 x3) fun x6 => cond (!x6) (some []) (cond x3.All (F_placement_Nodes x1)
    (req (x3.Writes.length ≤ 17592186044416) (bnd (ownersF x1 [x3.Writes]) fun x8 => some (compactL (sortL x8)))))

set_option maxRecDepth 100000 in
theorem W_route_Active {V : View} (x1 : TPlacement) (x3 : TFootprint) {a2 : Option Addr} {k2 : Nat} {a4 : Option Addr} {k4 : Nat} {a5 : Option Addr} {k5 : Nat} (h2 : SlAt cTPart V a2 k2 x1.Parts) (h4 : SlAt cStr V a4 k4 x3.Reads) (h5 : SlAt cStr V a5 k5 x3.Writes) {r : List Int} (hF : F_route_Active x1 x3 = some r) :
    Spec Tryz.prog 55 [.agg ⟨[.int .i64 (x1.Version), .slice a2 ((x1.Parts).length) (k2)]⟩, .agg ⟨[.bool (x3.All), .slice a4 ((x3.Reads).length) (k4), .slice a5 ((x3.Writes).length) (k5)]⟩] V (fun V' v => ∃ (a29 : Option Addr) (k29 : Nat), v = .slice a29 ((r).length) (k29) ∧ SlAt (cInt .i64) V' a29 k29 r) := by
  unfold F_route_Active at hF
  refine Spec.enter (T := tyT) Tryz.func55 rfl (by kernel_rfl) rfl rfl rfl ?_
  refine Exec.run tyOk 400 rfl ?_
  obtain ⟨x6, hx6, hF⟩ := bnd_some hF
  refine Exec.callS (.bool (x6)) rfl rfl (W_route_valid x1 x3 h2 h4 h5 hx6) ?_
  refine Exec.run tyOk 400 rfl ?_
  rcases cond_some hF with ⟨hb, hF⟩ | ⟨hb, hF⟩
  · skip
    refine Exec.ifT rfl hb ?_
    refine Exec.run tyOk 400 rfl ?_
    obtain rfl := some_inj hF
    exact Exec.ret tyOk rfl rfl ⟨_, _, rfl, SlAt.nil⟩
  · skip
    refine Exec.ifF rfl hb ?_
    refine Exec.run tyOk 400 rfl ?_
    rcases cond_some hF with ⟨hb, hF⟩ | ⟨hb, hF⟩
    · skip
      refine Exec.ifT rfl hb ?_
      refine Exec.run tyOk 400 rfl ?_
      refine Exec.call rfl rfl (W_placement_Nodes x1 h2 hF) ?_
      rintro V9 _ hv9 ⟨a8, k8, rfl, h8⟩
      refine Exec.run tyOk 400 rfl ?_
      exact Exec.ret tyOk rfl rfl ⟨_, _, rfl, h8⟩
    · skip
      refine Exec.ifF rfl hb ?_
      refine Exec.run tyOk 400 rfl ?_
      obtain ⟨q7, hF⟩ := req_some hF
      obtain ⟨x8, hx8, hF⟩ := bnd_some hF
      refine Exec.bsV tyOk rfl rfl rfl rfl rfl (fun V9 a9 hv9 hd9 => ?_)
      have h9 : SlAt (cSl cStr) V9 (some a9) 1 ([x3.Writes] : List (List Str)) := RowRep.slat (c := (cSl cStr)) (V := V9) (cs := [.slice a5 ((x3.Writes).length) (k5)]) ⟨_, _, rfl, ⟨_, _, rfl, (SlAt.mono h5 hv9)⟩, rfl⟩ (VLe.refl _) (fun _ => hd9) (by simp)
      have h10 := SlAt.mono h2 hv9
      refine Exec.run tyOk 400 rfl ?_
      refine Exec.call rfl rfl (X_owners x1 [x3.Writes] h10 h9 (by simp) (by simp; omega) hx8) ?_
      rintro V11 v11 hv11 h11
      refine Exec.run tyOk 400 rfl ?_
      refine Exec.call rfl rfl (X_different h11 (by have := ownerAll_len hx8; simp at this; omega)) ?_
      rintro V12 _ hv12 ⟨a12, k12, rfl, h12⟩
      refine Exec.run tyOk 400 rfl ?_
      obtain rfl := some_inj hF
      exact Exec.ret tyOk rfl rfl ⟨_, _, rfl, h12⟩

end

def F_route_Executors (x1 : TPlacement) (x3 : TFootprint) : Option (List Int) :=
  (bnd (F_route_valid x1 x3) fun x6 => (cond (!x6) (some ([] : List Int)) (bnd (F_route_Active x1 x3) fun x7 => (cond (decide ((0 : Int) < (((x7).length : Nat) : Int))) (some x7) (bnd (F_route_Nodes x1 x3) fun x13 => (cond (decide ((0 : Int) < (((x13).length : Nat) : Int))) (req (0 ≤ (0 : Int) ∧ (0 : Int) ≤ (1 : Int) ∧ (1 : Int) ≤ (1 : Int) ∧ (1 : Int) ≤ ((x13).length : Int)) (some ((x13.take ((1 : Int)).toNat).drop ((0 : Int)).toNat))) (req (0 ≤ (0 : Int) ∧ (0 : Int) < ((x1.Parts).length : Int)) (some ([(atI x1.Parts ((0 : Int))).Node] : List Int)))))))))

set_option maxRecDepth 100000 in
theorem W_route_Executors {V : View} (x1 : TPlacement) (x3 : TFootprint) {a2 : Option Addr} {k2 : Nat} {a4 : Option Addr} {k4 : Nat} {a5 : Option Addr} {k5 : Nat} (h2 : SlAt cTPart V a2 k2 x1.Parts) (h4 : SlAt cStr V a4 k4 x3.Reads) (h5 : SlAt cStr V a5 k5 x3.Writes) {r : List Int} (hF : F_route_Executors x1 x3 = some r) :
    Spec Tryz.prog 18 [.agg ⟨[.int .i64 (x1.Version), .slice a2 ((x1.Parts).length) (k2)]⟩, .agg ⟨[.bool (x3.All), .slice a4 ((x3.Reads).length) (k4), .slice a5 ((x3.Writes).length) (k5)]⟩] V (fun V' v => ∃ (a31 : Option Addr) (k31 : Nat), v = .slice a31 ((r).length) (k31) ∧ SlAt (cInt .i64) V' a31 k31 r) := by
  unfold F_route_Executors at hF
  refine Spec.enter (T := tyT) Tryz.func18 rfl (by kernel_rfl) rfl rfl rfl ?_
  refine Exec.run tyOk 400 rfl ?_
  obtain ⟨x6, hx6, hF⟩ := bnd_some hF
  refine Exec.callS (.bool (x6)) rfl rfl (W_route_valid x1 x3 h2 h4 h5 hx6) ?_
  refine Exec.run tyOk 400 rfl ?_
  rcases cond_some hF with ⟨hb, hF⟩ | ⟨hb, hF⟩
  · skip
    refine Exec.ifT rfl hb ?_
    refine Exec.run tyOk 400 rfl ?_
    obtain rfl := some_inj hF
    exact Exec.ret tyOk rfl rfl ⟨_, _, rfl, SlAt.nil⟩
  · skip
    refine Exec.ifF rfl hb ?_
    refine Exec.run tyOk 400 rfl ?_
    obtain ⟨x7, hx7, hF⟩ := bnd_some hF
    refine Exec.call rfl rfl (W_route_Active x1 x3 h2 h4 h5 hx7) ?_
    rintro V9 _ hv9 ⟨a8, k8, rfl, h8⟩
    have h10 := SlAt.mono h2 hv9
    have h11 := SlAt.mono h4 hv9
    have h12 := SlAt.mono h5 hv9
    refine Exec.run tyOk 400 rfl ?_
    rcases cond_some hF with ⟨hb, hF⟩ | ⟨hb, hF⟩
    · skip
      refine Exec.ifT rfl hb ?_
      refine Exec.run tyOk 400 rfl ?_
      obtain rfl := some_inj hF
      exact Exec.ret tyOk rfl rfl ⟨_, _, rfl, h8⟩
    · skip
      refine Exec.ifF rfl hb ?_
      refine Exec.run tyOk 400 rfl ?_
      obtain ⟨x13, hx13, hF⟩ := bnd_some hF
      refine Exec.call rfl rfl (W_route_Nodes x1 x3 h10 h11 h12 hx13) ?_
      rintro V15 _ hv15 ⟨a14, k14, rfl, h14⟩
      have h16 := SlAt.mono h10 hv15
      have h17 := SlAt.mono h11 hv15
      have h18 := SlAt.mono h12 hv15
      have h19 := SlAt.mono h8 hv15
      refine Exec.run tyOk 400 rfl ?_
      rcases cond_some hF with ⟨hb, hF⟩ | ⟨hb, hF⟩
      · skip
        refine Exec.ifT rfl hb ?_
        refine Exec.run tyOk 400 rfl ?_
        obtain ⟨q20, hF⟩ := req_some hF
        refine Exec.slv3 tyOk (c := (cInt .i64)) rfl rfl rfl rfl rfl rfl rfl (lo' := (0 : Int)) rfl h14 rfl q20 (fun a21 k21 h21 => ?_)
        refine Exec.run tyOk 400 rfl ?_
        obtain rfl := some_inj hF
        exact Exec.ret tyOk rfl rfl ⟨_, _, rfl, h21⟩
      · skip
        refine Exec.ifF rfl hb ?_
        refine Exec.run tyOk 400 rfl ?_
        obtain ⟨q22, hF⟩ := req_some hF
        obtain ⟨c23, hr23, hd23⟩ := SlAt.get h16 q22
        obtain rfl := hr23
        refine Exec.ia tyOk rfl rfl ⟨q22.1, q22.2, hd23.some⟩ ?_
        refine Exec.run tyOk 400 rfl ?_
        refine Exec.ld tyOk (x := .int .i64 ((atI x1.Parts ((0 : Int))).Node)) rfl rfl (RdAt.part hd23 2 1 rfl) rfl rfl ?_
        refine Exec.run tyOk 400 rfl ?_
        refine Exec.bsV tyOk rfl rfl rfl rfl rfl (fun V24 a24 hv24 hd24 => ?_)
        have h25 := SlAt.mono h16 hv24
        have h26 := SlAt.mono h17 hv24
        have h27 := SlAt.mono h18 hv24
        have h28 := SlAt.mono h19 hv24
        have h29 := SlAt.mono h14 hv24
        have h24 : SlAt (cInt .i64) V24 (some a24) 1 ([(atI x1.Parts ((0 : Int))).Node] : List Int) := RowRep.slat (c := (cInt .i64)) (V := V24) (cs := [.int .i64 ((atI x1.Parts ((0 : Int))).Node)]) ⟨_, _, rfl, rfl, rfl⟩ (VLe.refl _) (fun _ => hd24) (by simp)
        refine Exec.run tyOk 400 rfl ?_
        obtain rfl := some_inj hF
        exact Exec.ret tyOk rfl rfl ⟨_, _, rfl, h24⟩

def F_exchange_Local_L1 (x3 : TShard) (x5 : TFootprint) (J12 : (List TPair) → Option (List TPair)) : Nat → (List TPair) → Int → Option (List TPair)
  | 0, _, _ => none
  | n26 + 1, x24, x25 => (cond (decide (x25 < (((x3.Pairs).length : Nat) : Int))) (req (0 ≤ x25 ∧ x25 < ((x3.Pairs).length : Int)) (bnd (gcall ((x5.All) == false) (F_slices_Contains_string_string x5.Reads ((atI x3.Pairs x25).Key))) fun x34 => (jn (fun (x36 : List TPair) => (F_exchange_Local_L1 x3 x5 J12 n26 x36 ((IntKind.i64.wrap (x25 + (1 : Int)))))) (fun J37 => (cond (x5.All || x34) (req (((x24 ++ [(atI x3.Pairs x25)])).length * 48 ≤ 140737488355328) (J37 ((x24 ++ [(atI x3.Pairs x25)])))) (J37 x24)))))) (J12 x24))

def F_exchange_Local (x1 : TPlacement) (x3 : TShard) (x5 : TFootprint) : Option (List TPair) :=
  (bnd (F_exchange_valid x1 x3 x5) fun x8 => (cond (!x8) (some ([] : List TPair)) (jn (fun (x11 : List TPair) => (some x11)) (fun J12 => (F_exchange_Local_L1 x3 x5 J12 (((((x3.Pairs).length : Nat) : Int)).toNat + 1) (([] : List TPair)) ((0 : Int)))))))

set_option maxRecDepth 100000 in
theorem W_exchange_Local {V : View} (x1 : TPlacement) (x3 : TShard) (x5 : TFootprint) {a2 : Option Addr} {k2 : Nat} {a4 : Option Addr} {k4 : Nat} {a6 : Option Addr} {k6 : Nat} {a7 : Option Addr} {k7 : Nat} (h2 : SlAt cTPart V a2 k2 x1.Parts) (h4 : SlAt cTPair V a4 k4 x3.Pairs) (h6 : SlAt cStr V a6 k6 x5.Reads) (h7 : SlAt cStr V a7 k7 x5.Writes) {r : List TPair} (hF : F_exchange_Local x1 x3 x5 = some r) :
    Spec Tryz.prog 24 [.agg ⟨[.int .i64 (x1.Version), .slice a2 ((x1.Parts).length) (k2)]⟩, .agg ⟨[.int .i64 (x3.Node), .slice a4 ((x3.Pairs).length) (k4)]⟩, .agg ⟨[.bool (x5.All), .slice a6 ((x5.Reads).length) (k6), .slice a7 ((x5.Writes).length) (k7)]⟩] V (fun V' v => ∃ (a46 : Option Addr) (k46 : Nat), v = .slice a46 ((r).length) (k46) ∧ SlAt cTPair V' a46 k46 r) := by
  unfold F_exchange_Local at hF
  refine Spec.enter (T := tyT) Tryz.func24 rfl (by kernel_rfl) rfl rfl rfl ?_
  refine Exec.run tyOk 400 rfl ?_
  obtain ⟨x8, hx8, hF⟩ := bnd_some hF
  refine Exec.callS (.bool (x8)) rfl rfl (W_exchange_valid x1 x3 x5 h2 h4 h6 h7 hx8) ?_
  refine Exec.run tyOk 400 rfl ?_
  rcases cond_some hF with ⟨hb, hF⟩ | ⟨hb, hF⟩
  · skip
    refine Exec.ifT rfl hb ?_
    refine Exec.run tyOk 400 rfl ?_
    obtain rfl := some_inj hF
    exact Exec.ret tyOk rfl rfl ⟨_, _, rfl, SlAt.nil⟩
  · skip
    refine Exec.ifF rfl hb ?_
    refine Exec.run tyOk 13 rfl ?_
    refine Exec.row0 70 4 rfl ?_
    have h9 : RowRep cTPair V ([] : List TPair) [] := RowRep.nil
    obtain ⟨J12, hJ12, hF⟩ := jn_some hF
    refine Exec.seam (fun L' V' M' => ∃ (x11 : List TPair) (a10 : Option Addr) (k10 : Nat) (cs10 : List Value), L' = [(7, .v (.slice a10 ((x11).length) (k10)))] ∧ M' = [.blk [.v (.int .i64 (x1.Version)), .v (.slice a2 ((x1.Parts).length) (k2))] 24, .blk [.v (.int .i64 (x3.Node)), .v (.slice a4 ((x3.Pairs).length) (k4))] 40, .blk [.v (.bool (x5.All)), .v (.slice a6 ((x5.Reads).length) (k6)), .v (.slice a7 ((x5.Writes).length) (k7))] 27, .row (.slice a10 ((x11).length) (k10)) cs10 70 4] ∧ RowRep cTPair V' x11 cs10 ∧ SlAt cTPart V' a2 k2 x1.Parts ∧ SlAt cTPair V' a4 k4 x3.Pairs ∧ SlAt cStr V' a6 k6 x5.Reads ∧ SlAt cStr V' a7 k7 x5.Writes ∧ J12 x11 = some r) rfl ?_ ?_
    · rintro L' V13 M' ⟨x11, a10, k10, cs10, rfl, rfl, h10, h14, h15, h16, h17, hF⟩
      subst hJ12
      refine Exec.run tyOk 400 rfl ?_
      refine Exec.frz 3 rfl rfl rfl (fun V18 hv18 hd18 hn18 => ?_)
      have hz18 := RowRep.slat h10 hv18 hd18 hn18
      have h19 := SlAt.mono h14 hv18
      have h20 := SlAt.mono h15 hv18
      have h21 := SlAt.mono h16 hv18
      have h22 := SlAt.mono h17 hv18
      obtain rfl := some_inj hF
      exact Exec.ret tyOk rfl rfl ⟨_, _, rfl, hz18⟩
    · skip
      refine Exec.run tyOk 400 rfl ?_
      refine Exec.loop (fun n26 L' V' M' => ∃ (x24 : List TPair) (a23 : Option Addr) (k23 : Nat) (cs23 : List Value) (x25 : Int), L' = [(5, .ptr 2 0), (7, .v (.slice a23 ((x24).length) (k23))), (16, .v (.slice a4 ((x3.Pairs).length) (k4))), (17, .v (.int .i64 ((((x3.Pairs).length : Nat) : Int)))), (18, .v (.int .i64 (x25)))] ∧ M' = [.blk [.v (.int .i64 (x1.Version)), .v (.slice a2 ((x1.Parts).length) (k2))] 24, .blk [.v (.int .i64 (x3.Node)), .v (.slice a4 ((x3.Pairs).length) (k4))] 40, .blk [.v (.bool (x5.All)), .v (.slice a6 ((x5.Reads).length) (k6)), .v (.slice a7 ((x5.Writes).length) (k7))] 27, .row (.slice a23 ((x24).length) (k23)) cs23 70 4] ∧ RowRep cTPair V' x24 cs23 ∧ SlAt cTPair V' a4 k4 x3.Pairs ∧ SlAt cTPart V' a2 k2 x1.Parts ∧ SlAt cStr V' a6 k6 x5.Reads ∧ SlAt cStr V' a7 k7 x5.Writes ∧ F_exchange_Local_L1 x3 x5 J12 n26 x24 x25 = some r) ⟨(((((x3.Pairs).length : Nat) : Int)).toNat + 1), [(5, .ptr 2 0), (7, .v (.slice none ((([] : List TPair)).length) (0))), (16, .v (.slice a4 ((x3.Pairs).length) (k4))), (17, .v (.int .i64 ((((x3.Pairs).length : Nat) : Int)))), (18, .v (.int .i64 ((0 : Int))))], ⟨rfl, rfl, rfl, rfl, rfl, trivial⟩, ([] : List TPair), none, 0, [], (0 : Int), rfl, rfl, h9, h4, h2, h6, h7, hF⟩ ?_
      rintro n26 L' V27 M' ⟨x24, a23, k23, cs23, x25, rfl, rfl, h23, h28, h29, h30, h31, hF⟩
      rcases n26 with _ | n26
      · exact absurd hF (by simp [F_exchange_Local_L1])
      rw [F_exchange_Local_L1] at hF
      refine Exec.run tyOk 400 rfl ?_
      rcases cond_some hF with ⟨hb, hF⟩ | ⟨hb, hF⟩
      · skip
        refine Exec.ifT rfl hb ?_
        refine Exec.run tyOk 400 rfl ?_
        obtain ⟨q32, hF⟩ := req_some hF
        obtain ⟨c33, hr33, hd33⟩ := SlAt.get h28 q32
        obtain rfl := hr33
        refine Exec.ia tyOk rfl rfl ⟨q32.1, q32.2, hd33.some⟩ ?_
        refine Exec.run tyOk 400 rfl ?_
        refine Exec.ld tyOk (x := .agg ⟨[.string ⟨⟨(atI x3.Pairs x25).Key⟩⟩, .int .i64 ((atI x3.Pairs x25).Val.Kind), .int .i64 ((atI x3.Pairs x25).Val.N), .string ⟨⟨(atI x3.Pairs x25).Val.S⟩⟩]⟩) rfl rfl hd33 rfl rfl ?_
        refine Exec.run tyOk 400 rfl ?_
        obtain ⟨x34, hx34, hF⟩ := bnd_some hF
        refine Exec.callS (.bool (x34)) rfl rfl (fun gg0 => W_slices_Contains_string_string x5.Reads ((atI x3.Pairs x25).Key) h30 (gcall_some hx34 (gd1_of gg0))) ?_
        refine Exec.run tyOk 400 rfl ?_
        obtain ⟨J37, hJ37, hF⟩ := jn_some hF
        refine Exec.seam (fun L' V' M' => ∃ (x36 : List TPair) (a35 : Option Addr) (k35 : Nat) (cs35 : List Value), L' = [(5, .ptr 2 0), (7, .v (.slice a35 ((x36).length) (k35))), (16, .v (.slice a4 ((x3.Pairs).length) (k4))), (17, .v (.int .i64 ((((x3.Pairs).length : Nat) : Int)))), (18, .v (.int .i64 (x25)))] ∧ M' = [.blk [.v (.int .i64 (x1.Version)), .v (.slice a2 ((x1.Parts).length) (k2))] 24, .blk [.v (.int .i64 (x3.Node)), .v (.slice a4 ((x3.Pairs).length) (k4))] 40, .blk [.v (.bool (x5.All)), .v (.slice a6 ((x5.Reads).length) (k6)), .v (.slice a7 ((x5.Writes).length) (k7))] 27, .row (.slice a35 ((x36).length) (k35)) cs35 70 4] ∧ RowRep cTPair V' x36 cs35 ∧ SlAt cTPair V' a4 k4 x3.Pairs ∧ SlAt cTPart V' a2 k2 x1.Parts ∧ SlAt cStr V' a6 k6 x5.Reads ∧ SlAt cStr V' a7 k7 x5.Writes ∧ J37 x36 = some r) rfl ?_ ?_
        · rintro L' V38 M' ⟨x36, a35, k35, cs35, rfl, rfl, h35, h39, h40, h41, h42, hF⟩
          subst hJ37
          refine Exec.run tyOk 400 rfl ?_
          exact Exec.round [(5, .ptr 2 0), (7, .v (.slice a35 ((x36).length) (k35))), (16, .v (.slice a4 ((x3.Pairs).length) (k4))), (17, .v (.int .i64 ((((x3.Pairs).length : Nat) : Int)))), (18, .v (.int .i64 ((IntKind.i64.wrap (x25 + (1 : Int))))))] ⟨rfl, rfl, rfl, rfl, rfl, trivial⟩ ⟨n26, Nat.lt_succ_self _, x36, a35, k35, cs35, (IntKind.i64.wrap (x25 + (1 : Int))), rfl, rfl, h35, h39, h40, h41, h42, hF⟩
        · skip
          refine Exec.run tyOk 400 rfl ?_
          rcases cond_some hF with ⟨hb, hF⟩ | ⟨hb, hF⟩
          · skip
            refine Exec.ifT rfl hb ?_
            refine Exec.run tyOk 400 rfl ?_
            refine Exec.drawsE tyOk [8] [] [(0, true), (1, true), (2, true), (3, true), (4, true), (5, true), (6, true), (7, false), (8, false), (9, false)] (by kernel_rfl) ?_
            refine Exec.run tyOk 400 rfl ?_
            refine Exec.rowA 3 rfl (fun _ hc43 _ _ _ => ?_)
            refine Exec.fslx3 tyOk rfl rfl rfl rfl rfl rfl rfl rfl ⟨by simp [loN], by simp [loN], Int.le_refl _, by omega⟩ (q0 := (x24).length) (by simp) (l' := 0) rfl (n' := (x24).length) (by simp) (c' := (x24).length) (by simp) ?_
            refine Exec.run tyOk 400 rfl ?_
            refine Exec.bsl tyOk rfl rfl ?_
            refine Exec.run tyOk 400 rfl ?_
            obtain ⟨q45, hF⟩ := req_some hF
            refine Exec.appF tyOk 3 5 (nm := ((x24 ++ [(atI x3.Pairs x25)])).length) rfl rfl rfl rfl rfl rfl rfl rfl rfl (by simp) (fun _ _ => rfl) rfl q45 rfl rfl (by decide) (fun a44 k44 => ?_)
            have h44 : RowRep cTPair V27 (x24 ++ [(atI x3.Pairs x25)]) (cs23 ++ [.string ⟨⟨(atI x3.Pairs x25).Key⟩⟩, .int .i64 ((atI x3.Pairs x25).Val.Kind), .int .i64 ((atI x3.Pairs x25).Val.N), .string ⟨⟨(atI x3.Pairs x25).Val.S⟩⟩]) := RowRep.app h23 ⟨_, _, rfl, rfl, rfl⟩
            refine Exec.run tyOk 400 rfl ?_
            refine Exec.cut 4 [(5, .ptr 2 0), (7, .v (.slice a44 (((x24 ++ [(atI x3.Pairs x25)])).length) (k44))), (16, .v (.slice a4 ((x3.Pairs).length) (k4))), (17, .v (.int .i64 ((((x3.Pairs).length : Nat) : Int)))), (18, .v (.int .i64 (x25)))] (M' := [.blk [.v (.int .i64 (x1.Version)), .v (.slice a2 ((x1.Parts).length) (k2))] 24, .blk [.v (.int .i64 (x3.Node)), .v (.slice a4 ((x3.Pairs).length) (k4))] 40, .blk [.v (.bool (x5.All)), .v (.slice a6 ((x5.Reads).length) (k6)), .v (.slice a7 ((x5.Writes).length) (k7))] 27, .row (.slice a44 (((x24 ++ [(atI x3.Pairs x25)])).length) (k44)) ((cs23 ++ [.string ⟨⟨(atI x3.Pairs x25).Key⟩⟩, .int .i64 ((atI x3.Pairs x25).Val.Kind), .int .i64 ((atI x3.Pairs x25).Val.N), .string ⟨⟨(atI x3.Pairs x25).Val.S⟩⟩])) 70 4]) rfl ⟨rfl, rfl, rfl, rfl, rfl, trivial⟩ rfl rfl rfl ?_
            exact Exec.round [(5, .ptr 2 0), (7, .v (.slice a44 (((x24 ++ [(atI x3.Pairs x25)])).length) (k44))), (16, .v (.slice a4 ((x3.Pairs).length) (k4))), (17, .v (.int .i64 ((((x3.Pairs).length : Nat) : Int)))), (18, .v (.int .i64 (x25)))] ⟨rfl, rfl, rfl, rfl, rfl, trivial⟩ ⟨(x24 ++ [(atI x3.Pairs x25)]), a44, k44, (cs23 ++ [.string ⟨⟨(atI x3.Pairs x25).Key⟩⟩, .int .i64 ((atI x3.Pairs x25).Val.Kind), .int .i64 ((atI x3.Pairs x25).Val.N), .string ⟨⟨(atI x3.Pairs x25).Val.S⟩⟩]), rfl, rfl, h44, h28, h29, h30, h31, hF⟩
          · skip
            refine Exec.ifF rfl hb ?_
            refine Exec.run tyOk 400 rfl ?_
            refine Exec.cut 4 [(5, .ptr 2 0), (7, .v (.slice a23 ((x24).length) (k23))), (16, .v (.slice a4 ((x3.Pairs).length) (k4))), (17, .v (.int .i64 ((((x3.Pairs).length : Nat) : Int)))), (18, .v (.int .i64 (x25)))] (M' := [.blk [.v (.int .i64 (x1.Version)), .v (.slice a2 ((x1.Parts).length) (k2))] 24, .blk [.v (.int .i64 (x3.Node)), .v (.slice a4 ((x3.Pairs).length) (k4))] 40, .blk [.v (.bool (x5.All)), .v (.slice a6 ((x5.Reads).length) (k6)), .v (.slice a7 ((x5.Writes).length) (k7))] 27, .row (.slice a23 ((x24).length) (k23)) cs23 70 4]) rfl ⟨rfl, rfl, rfl, rfl, rfl, trivial⟩ rfl rfl rfl ?_
            exact Exec.round [(5, .ptr 2 0), (7, .v (.slice a23 ((x24).length) (k23))), (16, .v (.slice a4 ((x3.Pairs).length) (k4))), (17, .v (.int .i64 ((((x3.Pairs).length : Nat) : Int)))), (18, .v (.int .i64 (x25)))] ⟨rfl, rfl, rfl, rfl, rfl, trivial⟩ ⟨x24, a23, k23, cs23, rfl, rfl, h23, h28, h29, h30, h31, hF⟩
      · skip
        refine Exec.ifF rfl hb ?_
        refine Exec.run tyOk 400 rfl ?_
        exact Exec.round [(7, .v (.slice a23 ((x24).length) (k23)))] ⟨rfl, trivial⟩ ⟨x24, a23, k23, cs23, rfl, rfl, h23, h29, h28, h30, h31, hF⟩

def F_exchange_Send_L2 (x6 : TFootprint) (x1 : TPlacement) (x3 : TShard) (J92 : (List TMail) → (List Str) → Option (List TMail)) : Nat → (List TMail) → (List Str) → Int → Option (List TMail)
  | 0, _, _, _ => none
  | n115 + 1, x111, x113, x114 => (cond (decide (x114 < (((x6.Reads).length : Nat) : Int))) (req (0 ≤ x114 ∧ x114 < ((x6.Reads).length : Int)) (bnd (F_placement_Owner x1 ((atI x6.Reads x114))) fun x125 => (jn (fun (x127 : List TMail) (x129 : List Str) => (F_exchange_Send_L2 x6 x1 x3 J92 n115 x127 x129 ((IntKind.i64.wrap (x114 + (1 : Int)))))) (fun J130 => (cond (x125 == x3.Node) (req (((x113 ++ [(atI x6.Reads x114)])).length * 16 ≤ 140737488355328) (J130 x111 ((x113 ++ [(atI x6.Reads x114)])))) (J130 x111 x113)))))) (J92 x111 x113))

def F_exchange_Send_L1 (x18 : List Int) (x1 : TPlacement) (x3 : TShard) (x6 : TFootprint) (x5 : Int) (J28 : (List TMail) → Option (List TMail)) : Nat → (List TMail) → Int → Option (List TMail)
  | 0, _, _ => none
  | n42 + 1, x40, x41 => (cond (decide (x41 < (((x18).length : Nat) : Int))) (req (0 ≤ x41 ∧ x41 < ((x18).length : Int)) (bnd (F_exchange_Local x1 x3 x6) fun x51 => (jn (fun (x89 : List TMail) (x91 : List Str) => (req (((x89 ++ [(⟨x5, x3.Node, (atI x18 x41), x91, x51⟩ : TMail)])).length * 72 ≤ 140737488355328) (F_exchange_Send_L1 x18 x1 x3 x6 x5 J28 n42 ((x89 ++ [(⟨x5, x3.Node, (atI x18 x41), x91, x51⟩ : TMail)])) ((IntKind.i64.wrap (x41 + (1 : Int))))))) (fun J92 => (F_exchange_Send_L2 x6 x1 x3 J92 (((((x6.Reads).length : Nat) : Int)).toNat + 1) x40 (([] : List Str)) ((0 : Int))))))) (J28 x40))

def F_exchange_Send (x1 : TPlacement) (x3 : TShard) (x5 : Int) (x6 : TFootprint) : Option (List TMail) :=
  (bnd (F_exchange_valid x1 x3 x6) fun x9 => (bnd (gcall (((!x9)) == false) (F_route_Nodes x1 x6)) fun x10 => (bnd (gcall (((!x9)) == false) (F_slices_Contains_int_int x10 x3.Node)) fun x17 => (cond ((!x9) || (!x17)) (some ([] : List TMail)) (bnd (F_route_Executors x1 x6) fun x18 => (jn (fun (x27 : List TMail) => (some x27)) (fun J28 => (F_exchange_Send_L1 x18 x1 x3 x6 x5 J28 (((((x18).length : Nat) : Int)).toNat + 1) (([] : List TMail)) ((0 : Int))))))))))

set_option maxRecDepth 100000 in
theorem W_exchange_Send {V : View} (x1 : TPlacement) (x3 : TShard) (x5 : Int) (x6 : TFootprint) {a2 : Option Addr} {k2 : Nat} {a4 : Option Addr} {k4 : Nat} {a7 : Option Addr} {k7 : Nat} {a8 : Option Addr} {k8 : Nat} (h2 : SlAt cTPart V a2 k2 x1.Parts) (h4 : SlAt cTPair V a4 k4 x3.Pairs) (h7 : SlAt cStr V a7 k7 x6.Reads) (h8 : SlAt cStr V a8 k8 x6.Writes) {r : List TMail} (hF : F_exchange_Send x1 x3 x5 x6 = some r) :
    Spec Tryz.prog 16 [.agg ⟨[.int .i64 (x1.Version), .slice a2 ((x1.Parts).length) (k2)]⟩, .agg ⟨[.int .i64 (x3.Node), .slice a4 ((x3.Pairs).length) (k4)]⟩, .int .i64 (x5), .agg ⟨[.bool (x6.All), .slice a7 ((x6.Reads).length) (k7), .slice a8 ((x6.Writes).length) (k8)]⟩] V (fun V' v => ∃ (a140 : Option Addr) (k140 : Nat), v = .slice a140 ((r).length) (k140) ∧ SlAt cTMail V' a140 k140 r) := by
  unfold F_exchange_Send at hF
  refine Spec.enter (T := tyT) Tryz.func16 rfl (by kernel_rfl) rfl rfl rfl ?_
  refine Exec.run tyOk 400 rfl ?_
  refine Exec.draws tyOk [(0, true), (1, true), (2, true), (3, false), (4, false), (5, false), (6, true), (7, true), (9, true), (10, true), (8, false), (11, false), (12, false), (13, false)] rfl (by kernel_rfl) ?_
  refine Exec.run tyOk 400 rfl ?_
  obtain ⟨x9, hx9, hF⟩ := bnd_some hF
  refine Exec.callS (.bool (x9)) rfl rfl (W_exchange_valid x1 x3 x6 h2 h4 h7 h8 hx9) ?_
  refine Exec.run tyOk 400 rfl ?_
  obtain ⟨x10, hx10, hF⟩ := bnd_some hF
  refine Exec.callG (fun y : Option Addr × Nat => .slice y.1 ((x10).length) (y.2)) (none, 0) (R := fun V' y => SlAt (cInt .i64) V' y.1 y.2 x10) rfl rfl rfl (fun gg0 => (W_route_Nodes x1 x6 h2 h7 h8 (gcall_some hx10 (gd1_of gg0))).mono (fun V' _ _ ⟨a11, k11, e1, h11⟩ => ⟨⟨a11, k11⟩, e1, h11⟩)) ?_
  rintro V12 ⟨a11, k11⟩ hv12 hg12
  have h11 : SlAt (cInt .i64) V12 a11 k11 x10 := gslat1 hx10 (fun gg0 => (hg12 gg0))
  have h13 := SlAt.mono h2 hv12
  have h14 := SlAt.mono h4 hv12
  have h15 := SlAt.mono h7 hv12
  have h16 := SlAt.mono h8 hv12
  refine Exec.run tyOk 400 rfl ?_
  obtain ⟨x17, hx17, hF⟩ := bnd_some hF
  refine Exec.callS (.bool (x17)) rfl rfl (fun gg0 => W_slices_Contains_int_int x10 x3.Node h11 (gcall_some hx17 (gd1_of gg0))) ?_
  refine Exec.run tyOk 400 rfl ?_
  rcases cond_some hF with ⟨hb, hF⟩ | ⟨hb, hF⟩
  · skip
    refine Exec.ifT rfl hb ?_
    refine Exec.run tyOk 400 rfl ?_
    obtain rfl := some_inj hF
    exact Exec.ret tyOk rfl rfl ⟨_, _, rfl, SlAt.nil⟩
  · skip
    refine Exec.ifF rfl hb ?_
    refine Exec.run tyOk 400 rfl ?_
    obtain ⟨x18, hx18, hF⟩ := bnd_some hF
    refine Exec.call rfl rfl (W_route_Executors x1 x6 h13 h15 h16 hx18) ?_
    rintro V20 _ hv20 ⟨a19, k19, rfl, h19⟩
    have h21 := SlAt.mono h13 hv20
    have h22 := SlAt.mono h14 hv20
    have h23 := SlAt.mono h15 hv20
    have h24 := SlAt.mono h16 hv20
    refine Exec.run tyOk 3 rfl ?_
    refine Exec.row0 50 5 rfl ?_
    have h25 : RowRep cTMail V20 ([] : List TMail) [] := RowRep.nil
    obtain ⟨J28, hJ28, hF⟩ := jn_some hF
    refine Exec.seam (fun L' V' M' => ∃ (x27 : List TMail) (a26 : Option Addr) (k26 : Nat) (cs26 : List Value), L' = [(9, .v (.slice a26 ((x27).length) (k26)))] ∧ M' = [.blk [.v (.int .i64 (x1.Version)), .v (.slice a2 ((x1.Parts).length) (k2))] 24, .blk [.v (.int .i64 (x3.Node)), .v (.slice a4 ((x3.Pairs).length) (k4))] 40, .blk [.v (.bool (x6.All)), .v (.slice a7 ((x6.Reads).length) (k7)), .v (.slice a8 ((x6.Writes).length) (k8))] 27, .row (.slice a26 ((x27).length) (k26)) cs26 50 5] ∧ RowRep cTMail V' x27 cs26 ∧ SlAt cTPart V' a2 k2 x1.Parts ∧ SlAt cTPair V' a4 k4 x3.Pairs ∧ SlAt cStr V' a7 k7 x6.Reads ∧ SlAt cStr V' a8 k8 x6.Writes ∧ J28 x27 = some r) rfl ?_ ?_
    · rintro L' V29 M' ⟨x27, a26, k26, cs26, rfl, rfl, h26, h30, h31, h32, h33, hF⟩
      subst hJ28
      refine Exec.run tyOk 400 rfl ?_
      refine Exec.frz 3 rfl rfl rfl (fun V34 hv34 hd34 hn34 => ?_)
      have hz34 := RowRep.slat h26 hv34 hd34 hn34
      have h35 := SlAt.mono h30 hv34
      have h36 := SlAt.mono h31 hv34
      have h37 := SlAt.mono h32 hv34
      have h38 := SlAt.mono h33 hv34
      obtain rfl := some_inj hF
      exact Exec.ret tyOk rfl rfl ⟨_, _, rfl, hz34⟩
    · skip
      refine Exec.run tyOk 400 rfl ?_
      refine Exec.loop (fun n42 L' V' M' => ∃ (x40 : List TMail) (a39 : Option Addr) (k39 : Nat) (cs39 : List Value) (x41 : Int), L' = [(2, .v (.int .i64 (x5))), (4, .ptr 0 0), (5, .ptr 1 0), (7, .ptr 2 0), (9, .v (.slice a39 ((x40).length) (k39))), (31, .v (.slice a19 ((x18).length) (k19))), (32, .v (.int .i64 ((((x18).length : Nat) : Int)))), (33, .v (.int .i64 (x41)))] ∧ M' = [.blk [.v (.int .i64 (x1.Version)), .v (.slice a2 ((x1.Parts).length) (k2))] 24, .blk [.v (.int .i64 (x3.Node)), .v (.slice a4 ((x3.Pairs).length) (k4))] 40, .blk [.v (.bool (x6.All)), .v (.slice a7 ((x6.Reads).length) (k7)), .v (.slice a8 ((x6.Writes).length) (k8))] 27, .row (.slice a39 ((x40).length) (k39)) cs39 50 5] ∧ RowRep cTMail V' x40 cs39 ∧ SlAt (cInt .i64) V' a19 k19 x18 ∧ SlAt cTPart V' a2 k2 x1.Parts ∧ SlAt cTPair V' a4 k4 x3.Pairs ∧ SlAt cStr V' a7 k7 x6.Reads ∧ SlAt cStr V' a8 k8 x6.Writes ∧ F_exchange_Send_L1 x18 x1 x3 x6 x5 J28 n42 x40 x41 = some r) ⟨(((((x18).length : Nat) : Int)).toNat + 1), [(2, .v (.int .i64 (x5))), (4, .ptr 0 0), (5, .ptr 1 0), (7, .ptr 2 0), (9, .v (.slice none ((([] : List TMail)).length) (0))), (31, .v (.slice a19 ((x18).length) (k19))), (32, .v (.int .i64 ((((x18).length : Nat) : Int)))), (33, .v (.int .i64 ((0 : Int))))], ⟨rfl, rfl, rfl, rfl, rfl, rfl, rfl, rfl, trivial⟩, ([] : List TMail), none, 0, [], (0 : Int), rfl, rfl, h25, h19, h21, h22, h23, h24, hF⟩ ?_
      rintro n42 L' V43 M' ⟨x40, a39, k39, cs39, x41, rfl, rfl, h39, h44, h45, h46, h47, h48, hF⟩
      rcases n42 with _ | n42
      · exact absurd hF (by simp [F_exchange_Send_L1])
      rw [F_exchange_Send_L1] at hF
      refine Exec.run tyOk 400 rfl ?_
      rcases cond_some hF with ⟨hb, hF⟩ | ⟨hb, hF⟩
      · skip
        refine Exec.ifT rfl hb ?_
        refine Exec.run tyOk 400 rfl ?_
        obtain ⟨q49, hF⟩ := req_some hF
        obtain ⟨c50, hr50, hd50⟩ := SlAt.get h44 q49
        obtain rfl := hr50
        refine Exec.ia tyOk rfl rfl ⟨q49.1, q49.2, hd50.some⟩ ?_
        refine Exec.run tyOk 400 rfl ?_
        refine Exec.ld tyOk (x := .int .i64 ((atI x18 x41))) rfl rfl hd50 rfl rfl ?_
        refine Exec.run tyOk 400 rfl ?_
        refine Exec.draws tyOk [(0, true), (1, true), (2, true), (3, true), (4, true), (5, true), (6, true)] rfl (by kernel_rfl) ?_
        refine Exec.run tyOk 400 rfl ?_
        obtain ⟨x51, hx51, hF⟩ := bnd_some hF
        refine Exec.fork 7 9 [(8, true), (9, false)] [(7, false), (8, true)] [(10, false)] (fun lr' L' V' M' => ∃ (a52 : Option Addr) (k52 : Nat), lr' = [] ∧ L' = [(2, .v (.int .i64 (x5))), (4, .ptr 0 0), (5, .ptr 1 0), (7, .ptr 2 0), (9, .v (.slice a39 ((x40).length) (k39))), (12, .ptr 4 0), (31, .v (.slice a19 ((x18).length) (k19))), (32, .v (.int .i64 ((((x18).length : Nat) : Int)))), (33, .v (.int .i64 (x41))), (45, .v (.agg ⟨[.int .i64 (x5), .int .i64 (x3.Node), .int .i64 ((atI x18 x41)), .slice none (0) (0), .slice a52 ((x51).length) (k52)]⟩))] ∧ M' = [.blk [.v (.int .i64 (x1.Version)), .v (.slice a2 ((x1.Parts).length) (k2))] 24, .blk [.v (.int .i64 (x3.Node)), .v (.slice a4 ((x3.Pairs).length) (k4))] 40, .blk [.v (.bool (x6.All)), .v (.slice a7 ((x6.Reads).length) (k7)), .v (.slice a8 ((x6.Writes).length) (k8))] 27, .row (.slice a39 ((x40).length) (k39)) cs39 50 5, .blk [.v (.int .i64 (0)), .v (.int .i64 (0)), .v (.int .i64 (0)), .v (.slice none (0) (0)), .v (.slice none (0) (0))] 50] ∧ SlAt (cInt .i64) V' a19 k19 x18 ∧ SlAt cTPair V' a52 k52 x51 ∧ SlAt cTPart V' a2 k2 x1.Parts ∧ SlAt cTPair V' a4 k4 x3.Pairs ∧ SlAt cStr V' a7 k7 x6.Reads ∧ SlAt cStr V' a8 k8 x6.Writes ∧ RowRep cTMail V' x40 cs39) 1 [true, true, true, true, true, true, true, true, true, true, false] rfl (by kernel_rfl) rfl rfl (by kernel_rfl) (by kernel_rfl) (by kernel_rfl) (by kernel_rfl) (fun join => ?_) (fun join => ?_) ?_
        · skip
          refine Exec.run tyOk 400 rfl ?_
          refine Exec.call rfl rfl (W_exchange_Local x1 x3 x6 h45 h46 h47 h48 hx51) ?_
          rintro V62 _ hv62 ⟨a61, k61, rfl, h61⟩
          have h63 := SlAt.mono h44 hv62
          have h65 := SlAt.mono h45 hv62
          have h66 := SlAt.mono h46 hv62
          have h67 := SlAt.mono h47 hv62
          have h68 := SlAt.mono h48 hv62
          have h69 := RowRep.mono hv62 h39
          refine Exec.run tyOk 400 rfl ?_
          exact join [0, 1, 2, 3, 4] (lr' := []) (L' := [(2, .v (.int .i64 (x5))), (4, .ptr 0 0), (5, .ptr 1 0), (7, .ptr 2 0), (9, .v (.slice a39 ((x40).length) (k39))), (12, .ptr 4 0), (31, .v (.slice a19 ((x18).length) (k19))), (32, .v (.int .i64 ((((x18).length : Nat) : Int)))), (33, .v (.int .i64 (x41))), (45, .v (.agg ⟨[.int .i64 (x5), .int .i64 (x3.Node), .int .i64 ((atI x18 x41)), .slice none (0) (0), .slice a61 ((x51).length) (k61)]⟩))]) rfl rfl rfl rfl ⟨⟨_, rfl, rfl⟩, ⟨_, rfl, rfl⟩, ⟨_, rfl, rfl⟩, ⟨_, rfl, rfl⟩, ⟨_, rfl, rfl⟩, ⟨_, rfl, rfl⟩, ⟨_, rfl, rfl⟩, ⟨_, rfl, rfl⟩, ⟨_, rfl, rfl⟩, ⟨_, rfl, rfl⟩, trivial⟩ trivial ⟨_, _, rfl, rfl, rfl, h63, h61, h65, h66, h67, h68, h69⟩
        · skip
          refine Exec.run tyOk 400 rfl ?_
          refine Exec.call rfl rfl (W_exchange_Local x1 x3 x6 h45 h46 h47 h48 hx51) ?_
          rintro V71 _ hv71 ⟨a70, k70, rfl, h70⟩
          have h72 := SlAt.mono h44 hv71
          have h74 := SlAt.mono h45 hv71
          have h75 := SlAt.mono h46 hv71
          have h76 := SlAt.mono h47 hv71
          have h77 := SlAt.mono h48 hv71
          have h78 := RowRep.mono hv71 h39
          refine Exec.run tyOk 400 rfl ?_
          exact join [0, 1, 2, 3, 4] (lr' := []) (L' := [(2, .v (.int .i64 (x5))), (4, .ptr 0 0), (5, .ptr 1 0), (7, .ptr 2 0), (9, .v (.slice a39 ((x40).length) (k39))), (12, .ptr 4 0), (31, .v (.slice a19 ((x18).length) (k19))), (32, .v (.int .i64 ((((x18).length : Nat) : Int)))), (33, .v (.int .i64 (x41))), (45, .v (.agg ⟨[.int .i64 (x5), .int .i64 (x3.Node), .int .i64 ((atI x18 x41)), .slice none (0) (0), .slice a70 ((x51).length) (k70)]⟩))]) rfl rfl rfl rfl ⟨⟨_, rfl, rfl⟩, ⟨_, rfl, rfl⟩, ⟨_, rfl, rfl⟩, ⟨_, rfl, rfl⟩, ⟨_, rfl, rfl⟩, ⟨_, rfl, rfl⟩, ⟨_, rfl, rfl⟩, ⟨_, rfl, rfl⟩, ⟨_, rfl, rfl⟩, ⟨_, rfl, rfl⟩, trivial⟩ trivial ⟨_, _, rfl, rfl, rfl, h72, h70, h74, h75, h76, h77, h78⟩
        rintro lr' L' VV79 M' ⟨a52, k52, rfl, rfl, rfl, h80, h81, h82, h83, h84, h85, h86⟩
        refine Exec.run tyOk 12 rfl ?_
        refine Exec.row0 9 1 rfl ?_
        have h87 : RowRep cStr VV79 ([] : List Str) [] := RowRep.nil
        obtain ⟨J92, hJ92, hF⟩ := jn_some hF
        refine Exec.seam (fun L' V' M' => ∃ (x89 : List TMail) (a88 : Option Addr) (k88 : Nat) (cs88 : List Value) (x91 : List Str) (a90 : Option Addr) (k90 : Nat) (cs90 : List Value), L' = [(2, .v (.int .i64 (x5))), (4, .ptr 0 0), (5, .ptr 1 0), (7, .ptr 2 0), (9, .v (.slice a88 ((x89).length) (k88))), (12, .ptr 4 0), (31, .v (.slice a19 ((x18).length) (k19))), (32, .v (.int .i64 ((((x18).length : Nat) : Int)))), (33, .v (.int .i64 (x41)))] ∧ M' = [.blk [.v (.int .i64 (x1.Version)), .v (.slice a2 ((x1.Parts).length) (k2))] 24, .blk [.v (.int .i64 (x3.Node)), .v (.slice a4 ((x3.Pairs).length) (k4))] 40, .blk [.v (.bool (x6.All)), .v (.slice a7 ((x6.Reads).length) (k7)), .v (.slice a8 ((x6.Writes).length) (k8))] 27, .row (.slice a88 ((x89).length) (k88)) cs88 50 5, .blk [.v (.int .i64 (x5)), .v (.int .i64 (x3.Node)), .v (.int .i64 ((atI x18 x41))), .v (.slice a90 ((x91).length) (k90)), .v (.slice a52 ((x51).length) (k52))] 50, .row (.slice a90 ((x91).length) (k90)) cs90 9 1] ∧ RowRep cTMail V' x89 cs88 ∧ RowRep cStr V' x91 cs90 ∧ SlAt (cInt .i64) V' a19 k19 x18 ∧ SlAt cTPart V' a2 k2 x1.Parts ∧ SlAt cTPair V' a4 k4 x3.Pairs ∧ SlAt cStr V' a7 k7 x6.Reads ∧ SlAt cStr V' a8 k8 x6.Writes ∧ SlAt cTPair V' a52 k52 x51 ∧ J92 x89 x91 = some r) rfl ?_ ?_
        · rintro L' V93 M' ⟨x89, a88, k88, cs88, x91, a90, k90, cs90, rfl, rfl, h88, h90, h94, h95, h96, h97, h98, h99, hF⟩
          subst hJ92
          refine Exec.run tyOk 400 rfl ?_
          refine Exec.frz 5 rfl rfl rfl (fun V100 hv100 hd100 hn100 => ?_)
          have hz100 := RowRep.slat h90 hv100 hd100 hn100
          have h101 := SlAt.mono h94 hv100
          have h102 := SlAt.mono h99 hv100
          have h103 := SlAt.mono h95 hv100
          have h104 := SlAt.mono h96 hv100
          have h105 := SlAt.mono h97 hv100
          have h106 := SlAt.mono h98 hv100
          have h107 := RowRep.mono hv100 h88
          refine Exec.bsl tyOk rfl rfl ?_
          refine Exec.run tyOk 400 rfl ?_
          obtain ⟨q109, hF⟩ := req_some hF
          refine Exec.app tyOk 3 6 (nm := ((x89 ++ [(⟨x5, x3.Node, (atI x18 x41), x91, x51⟩ : TMail)])).length) rfl rfl rfl rfl rfl rfl rfl rfl rfl (by simp) (fun _ _ => rfl) rfl q109 (fun a108 k108 => ?_)
          have h108 : RowRep cTMail V100 (x89 ++ [(⟨x5, x3.Node, (atI x18 x41), x91, x51⟩ : TMail)]) (cs88 ++ [.int .i64 (x5), .int .i64 (x3.Node), .int .i64 ((atI x18 x41)), .slice a90 ((x91).length) (k90), .slice a52 ((x51).length) (k52)]) := RowRep.app h107 ⟨_, _, rfl, ⟨_, _, _, _, rfl, hz100, h102⟩, rfl⟩
          refine Exec.run tyOk 400 rfl ?_
          refine Exec.cut 4 [(2, .v (.int .i64 (x5))), (4, .ptr 0 0), (5, .ptr 1 0), (7, .ptr 2 0), (9, .v (.slice a108 (((x89 ++ [(⟨x5, x3.Node, (atI x18 x41), x91, x51⟩ : TMail)])).length) (k108))), (31, .v (.slice a19 ((x18).length) (k19))), (32, .v (.int .i64 ((((x18).length : Nat) : Int)))), (33, .v (.int .i64 ((IntKind.i64.wrap (x41 + (1 : Int))))))] (M' := [.blk [.v (.int .i64 (x1.Version)), .v (.slice a2 ((x1.Parts).length) (k2))] 24, .blk [.v (.int .i64 (x3.Node)), .v (.slice a4 ((x3.Pairs).length) (k4))] 40, .blk [.v (.bool (x6.All)), .v (.slice a7 ((x6.Reads).length) (k7)), .v (.slice a8 ((x6.Writes).length) (k8))] 27, .row (.slice a108 (((x89 ++ [(⟨x5, x3.Node, (atI x18 x41), x91, x51⟩ : TMail)])).length) (k108)) ((cs88 ++ [.int .i64 (x5), .int .i64 (x3.Node), .int .i64 ((atI x18 x41)), .slice a90 ((x91).length) (k90), .slice a52 ((x51).length) (k52)])) 50 5]) rfl ⟨rfl, rfl, rfl, rfl, rfl, rfl, rfl, rfl, trivial⟩ rfl rfl rfl ?_
          exact Exec.round [(2, .v (.int .i64 (x5))), (4, .ptr 0 0), (5, .ptr 1 0), (7, .ptr 2 0), (9, .v (.slice a108 (((x89 ++ [(⟨x5, x3.Node, (atI x18 x41), x91, x51⟩ : TMail)])).length) (k108))), (31, .v (.slice a19 ((x18).length) (k19))), (32, .v (.int .i64 ((((x18).length : Nat) : Int)))), (33, .v (.int .i64 ((IntKind.i64.wrap (x41 + (1 : Int))))))] ⟨rfl, rfl, rfl, rfl, rfl, rfl, rfl, rfl, trivial⟩ ⟨n42, Nat.lt_succ_self _, (x89 ++ [(⟨x5, x3.Node, (atI x18 x41), x91, x51⟩ : TMail)]), a108, k108, (cs88 ++ [.int .i64 (x5), .int .i64 (x3.Node), .int .i64 ((atI x18 x41)), .slice a90 ((x91).length) (k90), .slice a52 ((x51).length) (k52)]), (IntKind.i64.wrap (x41 + (1 : Int))), rfl, rfl, h108, h101, h103, h104, h105, h106, hF⟩
        · skip
          refine Exec.run tyOk 400 rfl ?_
          refine Exec.loop (fun n115 L' V' M' => ∃ (x111 : List TMail) (a110 : Option Addr) (k110 : Nat) (cs110 : List Value) (x113 : List Str) (a112 : Option Addr) (k112 : Nat) (cs112 : List Value) (x114 : Int), L' = [(2, .v (.int .i64 (x5))), (4, .ptr 0 0), (5, .ptr 1 0), (7, .ptr 2 0), (9, .v (.slice a110 ((x111).length) (k110))), (12, .ptr 4 0), (31, .v (.slice a19 ((x18).length) (k19))), (32, .v (.int .i64 ((((x18).length : Nat) : Int)))), (33, .v (.int .i64 (x41))), (47, .v (.slice a7 ((x6.Reads).length) (k7))), (48, .v (.int .i64 ((((x6.Reads).length : Nat) : Int)))), (49, .v (.int .i64 (x114)))] ∧ M' = [.blk [.v (.int .i64 (x1.Version)), .v (.slice a2 ((x1.Parts).length) (k2))] 24, .blk [.v (.int .i64 (x3.Node)), .v (.slice a4 ((x3.Pairs).length) (k4))] 40, .blk [.v (.bool (x6.All)), .v (.slice a7 ((x6.Reads).length) (k7)), .v (.slice a8 ((x6.Writes).length) (k8))] 27, .row (.slice a110 ((x111).length) (k110)) cs110 50 5, .blk [.v (.int .i64 (x5)), .v (.int .i64 (x3.Node)), .v (.int .i64 ((atI x18 x41))), .v (.slice a112 ((x113).length) (k112)), .v (.slice a52 ((x51).length) (k52))] 50, .row (.slice a112 ((x113).length) (k112)) cs112 9 1] ∧ RowRep cTMail V' x111 cs110 ∧ RowRep cStr V' x113 cs112 ∧ SlAt (cInt .i64) V' a19 k19 x18 ∧ SlAt cStr V' a7 k7 x6.Reads ∧ SlAt cTPart V' a2 k2 x1.Parts ∧ SlAt cTPair V' a4 k4 x3.Pairs ∧ SlAt cStr V' a8 k8 x6.Writes ∧ SlAt cTPair V' a52 k52 x51 ∧ F_exchange_Send_L2 x6 x1 x3 J92 n115 x111 x113 x114 = some r) ⟨(((((x6.Reads).length : Nat) : Int)).toNat + 1), [(2, .v (.int .i64 (x5))), (4, .ptr 0 0), (5, .ptr 1 0), (7, .ptr 2 0), (9, .v (.slice a39 ((x40).length) (k39))), (12, .ptr 4 0), (31, .v (.slice a19 ((x18).length) (k19))), (32, .v (.int .i64 ((((x18).length : Nat) : Int)))), (33, .v (.int .i64 (x41))), (47, .v (.slice a7 ((x6.Reads).length) (k7))), (48, .v (.int .i64 ((((x6.Reads).length : Nat) : Int)))), (49, .v (.int .i64 ((0 : Int))))], ⟨rfl, rfl, rfl, rfl, rfl, rfl, rfl, rfl, rfl, rfl, rfl, rfl, trivial⟩, x40, a39, k39, cs39, ([] : List Str), none, 0, [], (0 : Int), rfl, rfl, h86, h87, h80, h84, h82, h83, h85, h81, hF⟩ ?_
          rintro n115 L' V116 M' ⟨x111, a110, k110, cs110, x113, a112, k112, cs112, x114, rfl, rfl, h110, h112, h117, h118, h119, h120, h121, h122, hF⟩
          rcases n115 with _ | n115
          · exact absurd hF (by simp [F_exchange_Send_L2])
          rw [F_exchange_Send_L2] at hF
          refine Exec.run tyOk 400 rfl ?_
          rcases cond_some hF with ⟨hb, hF⟩ | ⟨hb, hF⟩
          · skip
            refine Exec.ifT rfl hb ?_
            refine Exec.run tyOk 400 rfl ?_
            obtain ⟨q123, hF⟩ := req_some hF
            obtain ⟨c124, hr124, hd124⟩ := SlAt.get h118 q123
            obtain rfl := hr124
            refine Exec.ia tyOk rfl rfl ⟨q123.1, q123.2, hd124.some⟩ ?_
            refine Exec.run tyOk 400 rfl ?_
            refine Exec.ld tyOk (x := .string ⟨⟨(atI x6.Reads x114)⟩⟩) rfl rfl hd124 rfl rfl ?_
            refine Exec.run tyOk 400 rfl ?_
            refine Exec.draws tyOk [(0, true), (1, true), (3, true), (4, true), (2, false), (5, false)] rfl (by kernel_rfl) ?_
            refine Exec.run tyOk 400 rfl ?_
            obtain ⟨x125, hx125, hF⟩ := bnd_some hF
            refine Exec.callS (.int .i64 (x125)) rfl rfl (W_placement_Owner x1 ((atI x6.Reads x114)) h119 hx125) ?_
            refine Exec.run tyOk 400 rfl ?_
            obtain ⟨J130, hJ130, hF⟩ := jn_some hF
            refine Exec.seam (fun L' V' M' => ∃ (x127 : List TMail) (a126 : Option Addr) (k126 : Nat) (cs126 : List Value) (x129 : List Str) (a128 : Option Addr) (k128 : Nat) (cs128 : List Value), L' = [(2, .v (.int .i64 (x5))), (4, .ptr 0 0), (5, .ptr 1 0), (7, .ptr 2 0), (9, .v (.slice a126 ((x127).length) (k126))), (12, .ptr 4 0), (31, .v (.slice a19 ((x18).length) (k19))), (32, .v (.int .i64 ((((x18).length : Nat) : Int)))), (33, .v (.int .i64 (x41))), (47, .v (.slice a7 ((x6.Reads).length) (k7))), (48, .v (.int .i64 ((((x6.Reads).length : Nat) : Int)))), (49, .v (.int .i64 (x114)))] ∧ M' = [.blk [.v (.int .i64 (x1.Version)), .v (.slice a2 ((x1.Parts).length) (k2))] 24, .blk [.v (.int .i64 (x3.Node)), .v (.slice a4 ((x3.Pairs).length) (k4))] 40, .blk [.v (.bool (x6.All)), .v (.slice a7 ((x6.Reads).length) (k7)), .v (.slice a8 ((x6.Writes).length) (k8))] 27, .row (.slice a126 ((x127).length) (k126)) cs126 50 5, .blk [.v (.int .i64 (x5)), .v (.int .i64 (x3.Node)), .v (.int .i64 ((atI x18 x41))), .v (.slice a128 ((x129).length) (k128)), .v (.slice a52 ((x51).length) (k52))] 50, .row (.slice a128 ((x129).length) (k128)) cs128 9 1] ∧ RowRep cTMail V' x127 cs126 ∧ RowRep cStr V' x129 cs128 ∧ SlAt (cInt .i64) V' a19 k19 x18 ∧ SlAt cStr V' a7 k7 x6.Reads ∧ SlAt cTPart V' a2 k2 x1.Parts ∧ SlAt cTPair V' a4 k4 x3.Pairs ∧ SlAt cStr V' a8 k8 x6.Writes ∧ SlAt cTPair V' a52 k52 x51 ∧ J130 x127 x129 = some r) rfl ?_ ?_
            · rintro L' V131 M' ⟨x127, a126, k126, cs126, x129, a128, k128, cs128, rfl, rfl, h126, h128, h132, h133, h134, h135, h136, h137, hF⟩
              subst hJ130
              refine Exec.run tyOk 400 rfl ?_
              exact Exec.round [(2, .v (.int .i64 (x5))), (4, .ptr 0 0), (5, .ptr 1 0), (7, .ptr 2 0), (9, .v (.slice a126 ((x127).length) (k126))), (12, .ptr 4 0), (31, .v (.slice a19 ((x18).length) (k19))), (32, .v (.int .i64 ((((x18).length : Nat) : Int)))), (33, .v (.int .i64 (x41))), (47, .v (.slice a7 ((x6.Reads).length) (k7))), (48, .v (.int .i64 ((((x6.Reads).length : Nat) : Int)))), (49, .v (.int .i64 ((IntKind.i64.wrap (x114 + (1 : Int))))))] ⟨rfl, rfl, rfl, rfl, rfl, rfl, rfl, rfl, rfl, rfl, rfl, rfl, trivial⟩ ⟨n115, Nat.lt_succ_self _, x127, a126, k126, cs126, x129, a128, k128, cs128, (IntKind.i64.wrap (x114 + (1 : Int))), rfl, rfl, h126, h128, h132, h133, h134, h135, h136, h137, hF⟩
            · skip
              refine Exec.run tyOk 400 rfl ?_
              rcases cond_some hF with ⟨hb, hF⟩ | ⟨hb, hF⟩
              · skip
                refine Exec.ifT rfl hb ?_
                refine Exec.run tyOk 400 rfl ?_
                refine Exec.bsl tyOk rfl rfl ?_
                refine Exec.run tyOk 400 rfl ?_
                obtain ⟨q139, hF⟩ := req_some hF
                refine Exec.app tyOk 5 6 (nm := ((x113 ++ [(atI x6.Reads x114)])).length) rfl rfl rfl rfl rfl rfl rfl rfl rfl (by simp) (fun _ _ => rfl) rfl q139 (fun a138 k138 => ?_)
                have h138 : RowRep cStr V116 (x113 ++ [(atI x6.Reads x114)]) (cs112 ++ [.string ⟨⟨(atI x6.Reads x114)⟩⟩]) := RowRep.app h112 ⟨_, _, rfl, rfl, rfl⟩
                refine Exec.run tyOk 400 rfl ?_
                refine Exec.cut 6 [(2, .v (.int .i64 (x5))), (4, .ptr 0 0), (5, .ptr 1 0), (7, .ptr 2 0), (9, .v (.slice a110 ((x111).length) (k110))), (12, .ptr 4 0), (31, .v (.slice a19 ((x18).length) (k19))), (32, .v (.int .i64 ((((x18).length : Nat) : Int)))), (33, .v (.int .i64 (x41))), (47, .v (.slice a7 ((x6.Reads).length) (k7))), (48, .v (.int .i64 ((((x6.Reads).length : Nat) : Int)))), (49, .v (.int .i64 (x114)))] (M' := [.blk [.v (.int .i64 (x1.Version)), .v (.slice a2 ((x1.Parts).length) (k2))] 24, .blk [.v (.int .i64 (x3.Node)), .v (.slice a4 ((x3.Pairs).length) (k4))] 40, .blk [.v (.bool (x6.All)), .v (.slice a7 ((x6.Reads).length) (k7)), .v (.slice a8 ((x6.Writes).length) (k8))] 27, .row (.slice a110 ((x111).length) (k110)) cs110 50 5, .blk [.v (.int .i64 (x5)), .v (.int .i64 (x3.Node)), .v (.int .i64 ((atI x18 x41))), .v (.slice a138 (((x113 ++ [(atI x6.Reads x114)])).length) (k138)), .v (.slice a52 ((x51).length) (k52))] 50, .row (.slice a138 (((x113 ++ [(atI x6.Reads x114)])).length) (k138)) ((cs112 ++ [.string ⟨⟨(atI x6.Reads x114)⟩⟩])) 9 1]) rfl ⟨rfl, rfl, rfl, rfl, rfl, rfl, rfl, rfl, rfl, rfl, rfl, rfl, trivial⟩ rfl rfl rfl ?_
                exact Exec.round [(2, .v (.int .i64 (x5))), (4, .ptr 0 0), (5, .ptr 1 0), (7, .ptr 2 0), (9, .v (.slice a110 ((x111).length) (k110))), (12, .ptr 4 0), (31, .v (.slice a19 ((x18).length) (k19))), (32, .v (.int .i64 ((((x18).length : Nat) : Int)))), (33, .v (.int .i64 (x41))), (47, .v (.slice a7 ((x6.Reads).length) (k7))), (48, .v (.int .i64 ((((x6.Reads).length : Nat) : Int)))), (49, .v (.int .i64 (x114)))] ⟨rfl, rfl, rfl, rfl, rfl, rfl, rfl, rfl, rfl, rfl, rfl, rfl, trivial⟩ ⟨x111, a110, k110, cs110, (x113 ++ [(atI x6.Reads x114)]), a138, k138, (cs112 ++ [.string ⟨⟨(atI x6.Reads x114)⟩⟩]), rfl, rfl, h110, h138, h117, h118, h119, h120, h121, h122, hF⟩
              · skip
                refine Exec.ifF rfl hb ?_
                refine Exec.run tyOk 400 rfl ?_
                exact Exec.round [(2, .v (.int .i64 (x5))), (4, .ptr 0 0), (5, .ptr 1 0), (7, .ptr 2 0), (9, .v (.slice a110 ((x111).length) (k110))), (12, .ptr 4 0), (31, .v (.slice a19 ((x18).length) (k19))), (32, .v (.int .i64 ((((x18).length : Nat) : Int)))), (33, .v (.int .i64 (x41))), (47, .v (.slice a7 ((x6.Reads).length) (k7))), (48, .v (.int .i64 ((((x6.Reads).length : Nat) : Int)))), (49, .v (.int .i64 (x114)))] ⟨rfl, rfl, rfl, rfl, rfl, rfl, rfl, rfl, rfl, rfl, rfl, rfl, trivial⟩ ⟨x111, a110, k110, cs110, x113, a112, k112, cs112, rfl, rfl, h110, h112, h117, h118, h119, h120, h121, h122, hF⟩
          · skip
            refine Exec.ifF rfl hb ?_
            refine Exec.run tyOk 400 rfl ?_
            exact Exec.round [(2, .v (.int .i64 (x5))), (4, .ptr 0 0), (5, .ptr 1 0), (7, .ptr 2 0), (9, .v (.slice a110 ((x111).length) (k110))), (12, .ptr 4 0), (31, .v (.slice a19 ((x18).length) (k19))), (32, .v (.int .i64 ((((x18).length : Nat) : Int)))), (33, .v (.int .i64 (x41)))] ⟨rfl, rfl, rfl, rfl, rfl, rfl, rfl, rfl, rfl, trivial⟩ ⟨x111, a110, k110, cs110, x113, a112, k112, cs112, rfl, rfl, h110, h112, h117, h119, h120, h118, h121, h122, hF⟩
      · skip
        refine Exec.ifF rfl hb ?_
        refine Exec.run tyOk 400 rfl ?_
        exact Exec.round [(9, .v (.slice a39 ((x40).length) (k39)))] ⟨rfl, trivial⟩ ⟨x40, a39, k39, cs39, rfl, rfl, h39, h45, h46, h47, h48, hF⟩

def F_clockworklaw31_lives  : Option Bool :=
  (bnd (F_clockworklaw31_pair (([97] : Str)) ((1 : Int))) fun x7 => (bnd (F_clockworklaw31_pair (([98] : Str)) ((2 : Int))) fun x8 => (bnd (F_exchange_Send ((⟨0, ([(⟨(1 : Int), [], (1 : Int), 0, []⟩ : TPart), (⟨(2 : Int), ([109] : Str), (2 : Int), 0, []⟩ : TPart)] : List TPart)⟩ : TPlacement)) ((⟨(1 : Int), ([x7, x8] : List TPair)⟩ : TShard)) ((5 : Int)) ((⟨false, ([([97] : Str), ([120] : Str)] : List Str), ([([120] : Str)] : List Str)⟩ : TFootprint))) fun x13 => (bnd (F_clockworklaw31_pair (([120] : Str)) ((3 : Int))) fun x20 => (bnd (F_exchange_Send ((⟨0, ([(⟨(1 : Int), [], (1 : Int), 0, []⟩ : TPart), (⟨(2 : Int), ([109] : Str), (2 : Int), 0, []⟩ : TPart)] : List TPart)⟩ : TPlacement)) ((⟨(2 : Int), ([x20] : List TPair)⟩ : TShard)) ((5 : Int)) ((⟨false, ([([97] : Str), ([120] : Str)] : List Str), ([([120] : Str)] : List Str)⟩ : TFootprint))) fun x27 => (req (((((((x13).length : Nat) : Int) != (1 : Int))) == false) = true → 0 ≤ (0 : Int) ∧ (0 : Int) < ((x13).length : Int)) (req ((((((((x13).length : Nat) : Int) != (1 : Int)) || ((cond ((((((x13).length : Nat) : Int) != (1 : Int))) == false) (atI x13 ((0 : Int))) default).To != (2 : Int)))) == false) = true → 0 ≤ (0 : Int) ∧ (0 : Int) < ((x13).length : Int)) (bnd (gcall (((((((x13).length : Nat) : Int) != (1 : Int)) || ((cond ((((((x13).length : Nat) : Int) != (1 : Int))) == false) (atI x13 ((0 : Int))) default).To != (2 : Int)))) == false) (F_clockworkref04_Same ((cond (((((((x13).length : Nat) : Int) != (1 : Int)) || ((cond ((((((x13).length : Nat) : Int) != (1 : Int))) == false) (atI x13 ((0 : Int))) default).To != (2 : Int)))) == false) (atI x13 ((0 : Int))) default).Keys) (([([97] : Str)] : List Str)))) fun x58 => (bnd (gcall (((((((((x13).length : Nat) : Int) != (1 : Int)) || ((cond ((((((x13).length : Nat) : Int) != (1 : Int))) == false) (atI x13 ((0 : Int))) default).To != (2 : Int))) || (!x58)) || ((((x27).length : Nat) : Int) != (1 : Int)))) == false) (F_exchange_Complete ((⟨0, ([(⟨(1 : Int), [], (1 : Int), 0, []⟩ : TPart), (⟨(2 : Int), ([109] : Str), (2 : Int), 0, []⟩ : TPart)] : List TPart)⟩ : TPlacement)) ((⟨false, ([([97] : Str), ([120] : Str)] : List Str), ([([120] : Str)] : List Str)⟩ : TFootprint)) ((5 : Int)) ((2 : Int)) x13)) fun x59 => (cond ((((((((x13).length : Nat) : Int) != (1 : Int)) || ((cond ((((((x13).length : Nat) : Int) != (1 : Int))) == false) (atI x13 ((0 : Int))) default).To != (2 : Int))) || (!x58)) || ((((x27).length : Nat) : Int) != (1 : Int))) || x59) (some false) (req (0 ≤ (0 : Int) ∧ (0 : Int) < ((x27).length : Int)) (req (0 ≤ (0 : Int) ∧ (0 : Int) < ((x13).length : Int)) (req (0 ≤ (0 : Int) ∧ (0 : Int) < ((x27).length : Int)) (bnd (F_exchange_Collect ((5 : Int)) ((2 : Int)) (([(atI x27 ((0 : Int))), (atI x13 ((0 : Int))), (atI x27 ((0 : Int)))] : List TMail))) fun x89 => (req (0 ≤ (0 : Int) ∧ (0 : Int) < ((x27).length : Int)) (req (0 ≤ (0 : Int) ∧ (0 : Int) < ((x13).length : Int)) (bnd (F_exchange_Complete ((⟨0, ([(⟨(1 : Int), [], (1 : Int), 0, []⟩ : TPart), (⟨(2 : Int), ([109] : Str), (2 : Int), 0, []⟩ : TPart)] : List TPart)⟩ : TPlacement)) ((⟨false, ([([97] : Str), ([120] : Str)] : List Str), ([([120] : Str)] : List Str)⟩ : TFootprint)) ((5 : Int)) ((2 : Int)) (([(atI x27 ((0 : Int))), (atI x13 ((0 : Int)))] : List TMail))) fun x142 => (bnd (gcall ((x142) == true) (F_clockworklaw31_pair (([97] : Str)) ((1 : Int)))) fun x143 => (bnd (gcall ((x142) == true) (F_clockworklaw31_pair (([120] : Str)) ((3 : Int)))) fun x144 => (bnd (gcall ((x142) == true) (F_clockworkref06_Same x89.1 (([x143, x144] : List TPair)))) fun x171 => (some ((x142 && x171) && (x89.2 == (0 : Int))))))))))))))))))))))))

set_option maxRecDepth 100000 in
theorem W_clockworklaw31_lives {V : View}    {r : Bool} (hF : F_clockworklaw31_lives  = some r) :
    Spec Tryz.prog 14 [] V (fun _ v => v = .bool (r)) := by
  unfold F_clockworklaw31_lives at hF
  refine Spec.enter (T := tyT) Tryz.func14 rfl (by kernel_rfl) rfl rfl rfl ?_
  refine Exec.run tyOk 400 rfl ?_
  refine Exec.bsV tyOk rfl rfl rfl rfl rfl (fun V1 a1 hv1 hd1 => ?_)
  have h1 : SlAt cTPart V1 (some a1) 2 ([(⟨(1 : Int), [], (1 : Int), 0, []⟩ : TPart), (⟨(2 : Int), ([109] : Str), (2 : Int), 0, []⟩ : TPart)] : List TPart) := RowRep.slat (c := cTPart) (V := V1) (cs := [.int .i64 ((1 : Int)), .string ⟨⟨[]⟩⟩, .int .i64 ((1 : Int)), .int .i64 (0), .string ⟨⟨[]⟩⟩, .int .i64 ((2 : Int)), .string ⟨⟨([109] : Str)⟩⟩, .int .i64 ((2 : Int)), .int .i64 (0), .string ⟨⟨[]⟩⟩]) ⟨_, _, rfl, rfl, ⟨_, _, rfl, rfl, rfl⟩⟩ (VLe.refl _) (fun _ => hd1) (by simp)
  refine Exec.run tyOk 400 rfl ?_
  refine Exec.bsV tyOk rfl rfl rfl rfl rfl (fun V2 a2 hv2 hd2 => ?_)
  have h3 := SlAt.mono h1 hv2
  have h2 : SlAt cStr V2 (some a2) 2 ([([97] : Str), ([120] : Str)] : List Str) := RowRep.slat (c := cStr) (V := V2) (cs := [.string ⟨⟨([97] : Str)⟩⟩, .string ⟨⟨([120] : Str)⟩⟩]) ⟨_, _, rfl, rfl, ⟨_, _, rfl, rfl, rfl⟩⟩ (VLe.refl _) (fun _ => hd2) (by simp)
  refine Exec.run tyOk 400 rfl ?_
  refine Exec.bsV tyOk rfl rfl rfl rfl rfl (fun V4 a4 hv4 hd4 => ?_)
  have h5 := SlAt.mono h3 hv4
  have h6 := SlAt.mono h2 hv4
  have h4 : SlAt cStr V4 (some a4) 1 ([([120] : Str)] : List Str) := RowRep.slat (c := cStr) (V := V4) (cs := [.string ⟨⟨([120] : Str)⟩⟩]) ⟨_, _, rfl, rfl, rfl⟩ (VLe.refl _) (fun _ => hd4) (by simp)
  refine Exec.run tyOk 400 rfl ?_
  refine Exec.draws tyOk [(0, true), (5, true), (1, false), (2, false), (3, false), (4, false), (6, false), (7, false)] rfl (by kernel_rfl) ?_
  refine Exec.run tyOk 400 rfl ?_
  obtain ⟨x7, hx7, hF⟩ := bnd_some hF
  refine Exec.callS (.agg ⟨[.string ⟨⟨x7.Key⟩⟩, .int .i64 (x7.Val.Kind), .int .i64 (x7.Val.N), .string ⟨⟨x7.Val.S⟩⟩]⟩) rfl rfl (W_clockworklaw31_pair (([97] : Str)) ((1 : Int))  hx7) ?_
  refine Exec.run tyOk 400 rfl ?_
  obtain ⟨x8, hx8, hF⟩ := bnd_some hF
  refine Exec.callS (.agg ⟨[.string ⟨⟨x8.Key⟩⟩, .int .i64 (x8.Val.Kind), .int .i64 (x8.Val.N), .string ⟨⟨x8.Val.S⟩⟩]⟩) rfl rfl (W_clockworklaw31_pair (([98] : Str)) ((2 : Int))  hx8) ?_
  refine Exec.run tyOk 400 rfl ?_
  refine Exec.bsV tyOk rfl rfl rfl rfl rfl (fun V9 a9 hv9 hd9 => ?_)
  have h10 := SlAt.mono h5 hv9
  have h11 := SlAt.mono h6 hv9
  have h12 := SlAt.mono h4 hv9
  have h9 : SlAt cTPair V9 (some a9) 2 ([x7, x8] : List TPair) := RowRep.slat (c := cTPair) (V := V9) (cs := [.string ⟨⟨x7.Key⟩⟩, .int .i64 (x7.Val.Kind), .int .i64 (x7.Val.N), .string ⟨⟨x7.Val.S⟩⟩, .string ⟨⟨x8.Key⟩⟩, .int .i64 (x8.Val.Kind), .int .i64 (x8.Val.N), .string ⟨⟨x8.Val.S⟩⟩]) ⟨_, _, rfl, rfl, ⟨_, _, rfl, rfl, rfl⟩⟩ (VLe.refl _) (fun _ => hd9) (by simp)
  refine Exec.run tyOk 400 rfl ?_
  obtain ⟨x13, hx13, hF⟩ := bnd_some hF
  refine Exec.call rfl rfl (W_exchange_Send ((⟨0, ([(⟨(1 : Int), [], (1 : Int), 0, []⟩ : TPart), (⟨(2 : Int), ([109] : Str), (2 : Int), 0, []⟩ : TPart)] : List TPart)⟩ : TPlacement)) ((⟨(1 : Int), ([x7, x8] : List TPair)⟩ : TShard)) ((5 : Int)) ((⟨false, ([([97] : Str), ([120] : Str)] : List Str), ([([120] : Str)] : List Str)⟩ : TFootprint)) h10 h9 h11 h12 hx13) ?_
  rintro V15 _ hv15 ⟨a14, k14, rfl, h14⟩
  have h16 := SlAt.mono h10 hv15
  have h17 := SlAt.mono h11 hv15
  have h18 := SlAt.mono h12 hv15
  have h19 := SlAt.mono h9 hv15
  refine Exec.run tyOk 400 rfl ?_
  refine Exec.draws tyOk [(0, true), (4, true), (1, false), (2, false), (3, false), (5, false), (6, false)] rfl (by kernel_rfl) ?_
  refine Exec.run tyOk 400 rfl ?_
  obtain ⟨x20, hx20, hF⟩ := bnd_some hF
  refine Exec.callS (.agg ⟨[.string ⟨⟨x20.Key⟩⟩, .int .i64 (x20.Val.Kind), .int .i64 (x20.Val.N), .string ⟨⟨x20.Val.S⟩⟩]⟩) rfl rfl (W_clockworklaw31_pair (([120] : Str)) ((3 : Int))  hx20) ?_
  refine Exec.run tyOk 400 rfl ?_
  refine Exec.bsV tyOk rfl rfl rfl rfl rfl (fun V21 a21 hv21 hd21 => ?_)
  have h22 := SlAt.mono h14 hv21
  have h23 := SlAt.mono h16 hv21
  have h24 := SlAt.mono h17 hv21
  have h25 := SlAt.mono h18 hv21
  have h26 := SlAt.mono h19 hv21
  have h21 : SlAt cTPair V21 (some a21) 1 ([x20] : List TPair) := RowRep.slat (c := cTPair) (V := V21) (cs := [.string ⟨⟨x20.Key⟩⟩, .int .i64 (x20.Val.Kind), .int .i64 (x20.Val.N), .string ⟨⟨x20.Val.S⟩⟩]) ⟨_, _, rfl, rfl, rfl⟩ (VLe.refl _) (fun _ => hd21) (by simp)
  refine Exec.run tyOk 400 rfl ?_
  obtain ⟨x27, hx27, hF⟩ := bnd_some hF
  refine Exec.call rfl rfl (W_exchange_Send ((⟨0, ([(⟨(1 : Int), [], (1 : Int), 0, []⟩ : TPart), (⟨(2 : Int), ([109] : Str), (2 : Int), 0, []⟩ : TPart)] : List TPart)⟩ : TPlacement)) ((⟨(2 : Int), ([x20] : List TPair)⟩ : TShard)) ((5 : Int)) ((⟨false, ([([97] : Str), ([120] : Str)] : List Str), ([([120] : Str)] : List Str)⟩ : TFootprint)) h23 h21 h24 h25 hx27) ?_
  rintro V29 _ hv29 ⟨a28, k28, rfl, h28⟩
  have h30 := SlAt.mono h22 hv29
  have h31 := SlAt.mono h23 hv29
  have h32 := SlAt.mono h24 hv29
  have h33 := SlAt.mono h25 hv29
  have h34 := SlAt.mono h26 hv29
  have h35 := SlAt.mono h21 hv29
  refine Exec.run tyOk 400 rfl ?_
  obtain ⟨q36, hF⟩ := req_some hF
  obtain ⟨c37, hr37, hd37⟩ := SlAt.gget ((((((x13).length : Nat) : Int) != (1 : Int))) == false) h30 q36
  obtain ⟨a38, k38, a39, k39, rfl, h38, h39⟩ := hr37
  refine Exec.ia tyOk rfl rfl (fun gg0 => ⟨(q36 (gd1_of gg0)).1, (q36 (gd1_of gg0)).2, (hd37 (gd1_of gg0)).some⟩) ?_
  refine Exec.run tyOk 400 rfl ?_
  refine Exec.ld tyOk (x := .int .i64 ((cond ((((((x13).length : Nat) : Int) != (1 : Int))) == false) (atI x13 ((0 : Int))) default).To)) rfl rfl (fun gg0 => (RdAt.part (hd37 (gd1_of gg0)) 2 1 rfl)) rfl rfl ?_
  refine Exec.run tyOk 400 rfl ?_
  obtain ⟨q40, hF⟩ := req_some hF
  obtain ⟨c41, hr41, hd41⟩ := SlAt.gget (((((((x13).length : Nat) : Int) != (1 : Int)) || ((cond ((((((x13).length : Nat) : Int) != (1 : Int))) == false) (atI x13 ((0 : Int))) default).To != (2 : Int)))) == false) h30 q40
  obtain ⟨a42, k42, a43, k43, rfl, h42, h43⟩ := hr41
  refine Exec.ia tyOk rfl rfl (fun gg0 => ⟨(q40 (gd1_of gg0)).1, (q40 (gd1_of gg0)).2, (hd41 (gd1_of gg0)).some⟩) ?_
  refine Exec.run tyOk 400 rfl ?_
  refine Exec.ld tyOk (x := .slice a42 (((cond (((((((x13).length : Nat) : Int) != (1 : Int)) || ((cond ((((((x13).length : Nat) : Int) != (1 : Int))) == false) (atI x13 ((0 : Int))) default).To != (2 : Int)))) == false) (atI x13 ((0 : Int))) default).Keys).length) (k42)) rfl rfl (fun gg0 => (RdAt.part (hd41 (gd1_of gg0)) 3 1 rfl)) rfl rfl ?_
  refine Exec.run tyOk 400 rfl ?_
  refine Exec.gbsV tyOk rfl rfl rfl rfl (fun V44 a44 hv44 hg44 => ?_) rfl
  have h45 := SlAt.mono h30 hv44
  have h46 := SlAt.mono h28 hv44
  have h47 := SlAt.mono h31 hv44
  have h48 := SlAt.mono h32 hv44
  have h49 := SlAt.mono h33 hv44
  have h50 := SlAt.mono h34 hv44
  have h51 := SlAt.mono h35 hv44
  have h53 := SlAt.mono h38 hv44
  have h54 := SlAt.mono h39 hv44
  have h56 := SlAt.mono h42 hv44
  have h57 := SlAt.mono h43 hv44
  have h44 : ((((((x13).length : Nat) : Int) != (1 : Int)) || ((cond ((((((x13).length : Nat) : Int) != (1 : Int))) == false) (atI x13 ((0 : Int))) default).To != (2 : Int)))) = false → SlAt cStr V44 ((some a44)) 1 (([([97] : Str)] : List Str)) := fun gg0 => RowRep.slat (c := cStr) (V := V44) (cs := [.string ⟨⟨([97] : Str)⟩⟩]) ⟨_, _, rfl, rfl, rfl⟩ (VLe.refl _) (fun _ => hg44 gg0) (by simp)
  refine Exec.run tyOk 400 rfl ?_
  obtain ⟨x58, hx58, hF⟩ := bnd_some hF
  refine Exec.callS (.bool (x58)) rfl rfl (fun gg0 => W_clockworkref04_Same ((cond (((((((x13).length : Nat) : Int) != (1 : Int)) || ((cond ((((((x13).length : Nat) : Int) != (1 : Int))) == false) (atI x13 ((0 : Int))) default).To != (2 : Int)))) == false) (atI x13 ((0 : Int))) default).Keys) (([([97] : Str)] : List Str)) h56 (h44 gg0) (gcall_some hx58 (gd1_of gg0))) ?_
  refine Exec.run tyOk 400 rfl ?_
  obtain ⟨x59, hx59, hF⟩ := bnd_some hF
  refine Exec.callS (.bool (x59)) rfl rfl (fun gg0 => W_exchange_Complete ((⟨0, ([(⟨(1 : Int), [], (1 : Int), 0, []⟩ : TPart), (⟨(2 : Int), ([109] : Str), (2 : Int), 0, []⟩ : TPart)] : List TPart)⟩ : TPlacement)) ((⟨false, ([([97] : Str), ([120] : Str)] : List Str), ([([120] : Str)] : List Str)⟩ : TFootprint)) ((5 : Int)) ((2 : Int)) x13 h47 h48 h49 h45 (gcall_some hx59 (gd1_of gg0))) ?_
  refine Exec.run tyOk 400 rfl ?_
  rcases cond_some hF with ⟨hb, hF⟩ | ⟨hb, hF⟩
  · skip
    refine Exec.ifT rfl hb ?_
    refine Exec.run tyOk 400 rfl ?_
    obtain rfl := some_inj hF
    exact Exec.ret tyOk rfl rfl rfl
  · skip
    refine Exec.ifF rfl hb ?_
    refine Exec.run tyOk 400 rfl ?_
    refine Exec.draws tyOk [(0, true), (1, true), (2, true), (3, true), (4, true), (5, true), (6, true), (7, true), (8, true), (9, false), (10, false), (11, false), (12, true), (13, true), (14, false), (15, false)] rfl (by kernel_rfl) ?_
    refine Exec.run tyOk 400 rfl ?_
    obtain ⟨q60, hF⟩ := req_some hF
    obtain ⟨c61, hr61, hd61⟩ := SlAt.get h46 q60
    obtain ⟨a62, k62, a63, k63, rfl, h62, h63⟩ := hr61
    refine Exec.fia tyOk rfl rfl rfl ⟨q60.1, q60.2, hd61.some⟩ ?_
    refine Exec.run tyOk 400 rfl ?_
    refine Exec.fld tyOk (x := .agg ⟨[.int .i64 ((atI x27 ((0 : Int))).Txn), .int .i64 ((atI x27 ((0 : Int))).From), .int .i64 ((atI x27 ((0 : Int))).To), .slice a62 (((atI x27 ((0 : Int))).Keys).length) (k62), .slice a63 (((atI x27 ((0 : Int))).Pairs).length) (k63)]⟩) rfl rfl rfl hd61 rfl rfl ?_
    refine Exec.run tyOk 400 rfl ?_
    obtain ⟨q64, hF⟩ := req_some hF
    obtain ⟨c65, hr65, hd65⟩ := SlAt.get h45 q64
    obtain ⟨a66, k66, a67, k67, rfl, h66, h67⟩ := hr65
    refine Exec.fia tyOk rfl rfl rfl ⟨q64.1, q64.2, hd65.some⟩ ?_
    refine Exec.run tyOk 400 rfl ?_
    refine Exec.fld tyOk (x := .agg ⟨[.int .i64 ((atI x13 ((0 : Int))).Txn), .int .i64 ((atI x13 ((0 : Int))).From), .int .i64 ((atI x13 ((0 : Int))).To), .slice a66 (((atI x13 ((0 : Int))).Keys).length) (k66), .slice a67 (((atI x13 ((0 : Int))).Pairs).length) (k67)]⟩) rfl rfl rfl hd65 rfl rfl ?_
    refine Exec.run tyOk 400 rfl ?_
    obtain ⟨q68, hF⟩ := req_some hF
    obtain ⟨c69, hr69, hd69⟩ := SlAt.get h46 q68
    obtain ⟨a70, k70, a71, k71, rfl, h70, h71⟩ := hr69
    refine Exec.fia tyOk rfl rfl rfl ⟨q68.1, q68.2, hd69.some⟩ ?_
    refine Exec.run tyOk 400 rfl ?_
    refine Exec.fld tyOk (x := .agg ⟨[.int .i64 ((atI x27 ((0 : Int))).Txn), .int .i64 ((atI x27 ((0 : Int))).From), .int .i64 ((atI x27 ((0 : Int))).To), .slice a70 (((atI x27 ((0 : Int))).Keys).length) (k70), .slice a71 (((atI x27 ((0 : Int))).Pairs).length) (k71)]⟩) rfl rfl rfl hd69 rfl rfl ?_
    refine Exec.run tyOk 400 rfl ?_
    refine Exec.bsV tyOk rfl rfl rfl rfl rfl (fun V72 a72 hv72 hd72 => ?_)
    have h73 := SlAt.mono h45 hv72
    have h74 := SlAt.mono h46 hv72
    have h75 := SlAt.mono h47 hv72
    have h76 := SlAt.mono h48 hv72
    have h77 := SlAt.mono h49 hv72
    have h78 := SlAt.mono h50 hv72
    have h79 := SlAt.mono h51 hv72
    have h81 := SlAt.mono h62 hv72
    have h82 := SlAt.mono h63 hv72
    have h84 := SlAt.mono h66 hv72
    have h85 := SlAt.mono h67 hv72
    have h87 := SlAt.mono h70 hv72
    have h88 := SlAt.mono h71 hv72
    have h72 : SlAt cTMail V72 (some a72) 3 ([(atI x27 ((0 : Int))), (atI x13 ((0 : Int))), (atI x27 ((0 : Int)))] : List TMail) := RowRep.slat (c := cTMail) (V := V72) (cs := [.int .i64 ((atI x27 ((0 : Int))).Txn), .int .i64 ((atI x27 ((0 : Int))).From), .int .i64 ((atI x27 ((0 : Int))).To), .slice a62 (((atI x27 ((0 : Int))).Keys).length) (k62), .slice a63 (((atI x27 ((0 : Int))).Pairs).length) (k63), .int .i64 ((atI x13 ((0 : Int))).Txn), .int .i64 ((atI x13 ((0 : Int))).From), .int .i64 ((atI x13 ((0 : Int))).To), .slice a66 (((atI x13 ((0 : Int))).Keys).length) (k66), .slice a67 (((atI x13 ((0 : Int))).Pairs).length) (k67), .int .i64 ((atI x27 ((0 : Int))).Txn), .int .i64 ((atI x27 ((0 : Int))).From), .int .i64 ((atI x27 ((0 : Int))).To), .slice a70 (((atI x27 ((0 : Int))).Keys).length) (k70), .slice a71 (((atI x27 ((0 : Int))).Pairs).length) (k71)]) ⟨_, _, rfl, ⟨_, _, _, _, rfl, (SlAt.mono h62 hv72), (SlAt.mono h63 hv72)⟩, ⟨_, _, rfl, ⟨_, _, _, _, rfl, (SlAt.mono h66 hv72), (SlAt.mono h67 hv72)⟩, ⟨_, _, rfl, ⟨_, _, _, _, rfl, (SlAt.mono h70 hv72), (SlAt.mono h71 hv72)⟩, rfl⟩⟩⟩ (VLe.refl _) (fun _ => hd72) (by simp)
    refine Exec.run tyOk 400 rfl ?_
    obtain ⟨x89, hx89, hF⟩ := bnd_some hF
    refine Exec.call rfl rfl (W_exchange_Collect ((5 : Int)) ((2 : Int)) (([(atI x27 ((0 : Int))), (atI x13 ((0 : Int))), (atI x27 ((0 : Int)))] : List TMail)) h72 hx89) ?_
    rintro V91 _ hv91 ⟨a90, k90, rfl, h90⟩
    have h92 := SlAt.mono h73 hv91
    have h93 := SlAt.mono h74 hv91
    have h94 := SlAt.mono h75 hv91
    have h95 := SlAt.mono h76 hv91
    have h96 := SlAt.mono h77 hv91
    have h97 := SlAt.mono h78 hv91
    have h98 := SlAt.mono h79 hv91
    have h100 := SlAt.mono h81 hv91
    have h101 := SlAt.mono h82 hv91
    have h103 := SlAt.mono h84 hv91
    have h104 := SlAt.mono h85 hv91
    have h106 := SlAt.mono h87 hv91
    have h107 := SlAt.mono h88 hv91
    have h108 := SlAt.mono h72 hv91
    refine Exec.run tyOk 400 rfl ?_
    refine Exec.draws tyOk [(0, true), (1, true), (2, true), (3, true), (4, true), (5, true), (6, true), (7, true), (8, false), (9, false), (10, false), (11, true), (12, false), (13, false), (14, false), (15, false), (16, false), (17, false), (18, false), (19, false), (20, false), (21, false)] rfl (by kernel_rfl) ?_
    refine Exec.run tyOk 400 rfl ?_
    obtain ⟨q109, hF⟩ := req_some hF
    obtain ⟨c110, hr110, hd110⟩ := SlAt.get h93 q109
    obtain ⟨a111, k111, a112, k112, rfl, h111, h112⟩ := hr110
    refine Exec.fia tyOk rfl rfl rfl ⟨q109.1, q109.2, hd110.some⟩ ?_
    refine Exec.run tyOk 400 rfl ?_
    refine Exec.fld tyOk (x := .agg ⟨[.int .i64 ((atI x27 ((0 : Int))).Txn), .int .i64 ((atI x27 ((0 : Int))).From), .int .i64 ((atI x27 ((0 : Int))).To), .slice a111 (((atI x27 ((0 : Int))).Keys).length) (k111), .slice a112 (((atI x27 ((0 : Int))).Pairs).length) (k112)]⟩) rfl rfl rfl hd110 rfl rfl ?_
    refine Exec.run tyOk 400 rfl ?_
    obtain ⟨q113, hF⟩ := req_some hF
    obtain ⟨c114, hr114, hd114⟩ := SlAt.get h92 q113
    obtain ⟨a115, k115, a116, k116, rfl, h115, h116⟩ := hr114
    refine Exec.fia tyOk rfl rfl rfl ⟨q113.1, q113.2, hd114.some⟩ ?_
    refine Exec.run tyOk 400 rfl ?_
    refine Exec.fld tyOk (x := .agg ⟨[.int .i64 ((atI x13 ((0 : Int))).Txn), .int .i64 ((atI x13 ((0 : Int))).From), .int .i64 ((atI x13 ((0 : Int))).To), .slice a115 (((atI x13 ((0 : Int))).Keys).length) (k115), .slice a116 (((atI x13 ((0 : Int))).Pairs).length) (k116)]⟩) rfl rfl rfl hd114 rfl rfl ?_
    refine Exec.run tyOk 400 rfl ?_
    refine Exec.bsV tyOk rfl rfl rfl rfl rfl (fun V117 a117 hv117 hd117 => ?_)
    have h118 := SlAt.mono h92 hv117
    have h119 := SlAt.mono h93 hv117
    have h120 := SlAt.mono h90 hv117
    have h121 := SlAt.mono h94 hv117
    have h122 := SlAt.mono h95 hv117
    have h123 := SlAt.mono h96 hv117
    have h124 := SlAt.mono h97 hv117
    have h125 := SlAt.mono h98 hv117
    have h127 := SlAt.mono h100 hv117
    have h128 := SlAt.mono h101 hv117
    have h130 := SlAt.mono h103 hv117
    have h131 := SlAt.mono h104 hv117
    have h133 := SlAt.mono h106 hv117
    have h134 := SlAt.mono h107 hv117
    have h135 := SlAt.mono h108 hv117
    have h137 := SlAt.mono h111 hv117
    have h138 := SlAt.mono h112 hv117
    have h140 := SlAt.mono h115 hv117
    have h141 := SlAt.mono h116 hv117
    have h117 : SlAt cTMail V117 (some a117) 2 ([(atI x27 ((0 : Int))), (atI x13 ((0 : Int)))] : List TMail) := RowRep.slat (c := cTMail) (V := V117) (cs := [.int .i64 ((atI x27 ((0 : Int))).Txn), .int .i64 ((atI x27 ((0 : Int))).From), .int .i64 ((atI x27 ((0 : Int))).To), .slice a111 (((atI x27 ((0 : Int))).Keys).length) (k111), .slice a112 (((atI x27 ((0 : Int))).Pairs).length) (k112), .int .i64 ((atI x13 ((0 : Int))).Txn), .int .i64 ((atI x13 ((0 : Int))).From), .int .i64 ((atI x13 ((0 : Int))).To), .slice a115 (((atI x13 ((0 : Int))).Keys).length) (k115), .slice a116 (((atI x13 ((0 : Int))).Pairs).length) (k116)]) ⟨_, _, rfl, ⟨_, _, _, _, rfl, (SlAt.mono h111 hv117), (SlAt.mono h112 hv117)⟩, ⟨_, _, rfl, ⟨_, _, _, _, rfl, (SlAt.mono h115 hv117), (SlAt.mono h116 hv117)⟩, rfl⟩⟩ (VLe.refl _) (fun _ => hd117) (by simp)
    refine Exec.run tyOk 400 rfl ?_
    obtain ⟨x142, hx142, hF⟩ := bnd_some hF
    refine Exec.callS (.bool (x142)) rfl rfl (W_exchange_Complete ((⟨0, ([(⟨(1 : Int), [], (1 : Int), 0, []⟩ : TPart), (⟨(2 : Int), ([109] : Str), (2 : Int), 0, []⟩ : TPart)] : List TPart)⟩ : TPlacement)) ((⟨false, ([([97] : Str), ([120] : Str)] : List Str), ([([120] : Str)] : List Str)⟩ : TFootprint)) ((5 : Int)) ((2 : Int)) (([(atI x27 ((0 : Int))), (atI x13 ((0 : Int)))] : List TMail)) h121 h122 h123 h117 hx142) ?_
    refine Exec.run tyOk 400 rfl ?_
    obtain ⟨x143, hx143, hF⟩ := bnd_some hF
    refine Exec.callS (.agg ⟨[.string ⟨⟨x143.Key⟩⟩, .int .i64 (x143.Val.Kind), .int .i64 (x143.Val.N), .string ⟨⟨x143.Val.S⟩⟩]⟩) rfl rfl (fun gg0 => W_clockworklaw31_pair (([97] : Str)) ((1 : Int))  (gcall_some hx143 (gd1_of gg0))) ?_
    refine Exec.run tyOk 400 rfl ?_
    obtain ⟨x144, hx144, hF⟩ := bnd_some hF
    refine Exec.callS (.agg ⟨[.string ⟨⟨x144.Key⟩⟩, .int .i64 (x144.Val.Kind), .int .i64 (x144.Val.N), .string ⟨⟨x144.Val.S⟩⟩]⟩) rfl rfl (fun gg0 => W_clockworklaw31_pair (([120] : Str)) ((3 : Int))  (gcall_some hx144 (gd1_of gg0))) ?_
    refine Exec.run tyOk 400 rfl ?_
    refine Exec.gbsV tyOk rfl rfl rfl rfl (fun V145 a145 hv145 hg145 => ?_) rfl
    have h146 := SlAt.mono h118 hv145
    have h147 := SlAt.mono h119 hv145
    have h148 := SlAt.mono h120 hv145
    have h149 := SlAt.mono h121 hv145
    have h150 := SlAt.mono h122 hv145
    have h151 := SlAt.mono h123 hv145
    have h152 := SlAt.mono h124 hv145
    have h153 := SlAt.mono h125 hv145
    have h155 := SlAt.mono h127 hv145
    have h156 := SlAt.mono h128 hv145
    have h158 := SlAt.mono h130 hv145
    have h159 := SlAt.mono h131 hv145
    have h161 := SlAt.mono h133 hv145
    have h162 := SlAt.mono h134 hv145
    have h163 := SlAt.mono h135 hv145
    have h165 := SlAt.mono h137 hv145
    have h166 := SlAt.mono h138 hv145
    have h168 := SlAt.mono h140 hv145
    have h169 := SlAt.mono h141 hv145
    have h170 := SlAt.mono h117 hv145
    have h145 : (x142) = true → SlAt cTPair V145 ((some a145)) 2 (([x143, x144] : List TPair)) := fun gg0 => RowRep.slat (c := cTPair) (V := V145) (cs := [.string ⟨⟨x143.Key⟩⟩, .int .i64 (x143.Val.Kind), .int .i64 (x143.Val.N), .string ⟨⟨x143.Val.S⟩⟩, .string ⟨⟨x144.Key⟩⟩, .int .i64 (x144.Val.Kind), .int .i64 (x144.Val.N), .string ⟨⟨x144.Val.S⟩⟩]) ⟨_, _, rfl, rfl, ⟨_, _, rfl, rfl, rfl⟩⟩ (VLe.refl _) (fun _ => hg145 gg0) (by simp)
    refine Exec.run tyOk 400 rfl ?_
    obtain ⟨x171, hx171, hF⟩ := bnd_some hF
    refine Exec.callS (.bool (x171)) rfl rfl (fun gg0 => W_clockworkref06_Same x89.1 (([x143, x144] : List TPair)) h148 (h145 gg0) (gcall_some hx171 (gd1_of gg0))) ?_
    refine Exec.run tyOk 400 rfl ?_
    obtain rfl := some_inj hF
    exact Exec.ret tyOk rfl rfl rfl

def F_clockworklaw31_ExchangeCodes (x1 : TMail) (x4 : Str) : Option Bool :=
  (bnd (F_clockworkref31_FewMails (([x1] : List TMail))) fun x8 => (cond ((!x8) || (decide ((500 : Int) < ((x4).length : Int)))) (bnd (F_clockworklaw31_lives ) fun x9 => (some x9)) (bnd (F_exchange_Decode x4) fun x10 => (bnd (F_clockworkref31_Decode x4) fun x17 => (bnd (F_exchange_Encode x1) fun x26 => (bnd (F_clockworkref31_Encode x1) fun x27 => (bnd (gcall (((x26 == x27)) == true) (F_clockworkref31_Same x10.1 x17.1)) fun x28 => (bnd (gcall (((((x26 == x27) && x28) && (x10.2 == x17.2))) == true) (F_clockworklaw31_lives )) fun x29 => (some ((((x26 == x27) && x28) && (x10.2 == x17.2)) && x29))))))))))

set_option maxRecDepth 100000 in
theorem W_clockworklaw31_ExchangeCodes {V : View} (x1 : TMail) (x4 : Str) {a2 : Option Addr} {k2 : Nat} {a3 : Option Addr} {k3 : Nat} (h2 : SlAt cStr V a2 k2 x1.Keys) (h3 : SlAt cTPair V a3 k3 x1.Pairs) {r : Bool} (hF : F_clockworklaw31_ExchangeCodes x1 x4 = some r) :
    Spec Tryz.prog 7 [.agg ⟨[.int .i64 (x1.Txn), .int .i64 (x1.From), .int .i64 (x1.To), .slice a2 ((x1.Keys).length) (k2), .slice a3 ((x1.Pairs).length) (k3)]⟩, .string ⟨⟨x4⟩⟩] V (fun _ v => v = .bool (r)) := by
  unfold F_clockworklaw31_ExchangeCodes at hF
  refine Spec.enter (T := tyT) Tryz.func7 rfl (by kernel_rfl) rfl rfl rfl ?_
  refine Exec.run tyOk 400 rfl ?_
  refine Exec.bsV tyOk rfl rfl rfl rfl rfl (fun V5 a5 hv5 hd5 => ?_)
  have h6 := SlAt.mono h2 hv5
  have h7 := SlAt.mono h3 hv5
  have h5 : SlAt cTMail V5 (some a5) 1 ([x1] : List TMail) := RowRep.slat (c := cTMail) (V := V5) (cs := [.int .i64 (x1.Txn), .int .i64 (x1.From), .int .i64 (x1.To), .slice a2 ((x1.Keys).length) (k2), .slice a3 ((x1.Pairs).length) (k3)]) ⟨_, _, rfl, ⟨_, _, _, _, rfl, (SlAt.mono h2 hv5), (SlAt.mono h3 hv5)⟩, rfl⟩ (VLe.refl _) (fun _ => hd5) (by simp)
  refine Exec.run tyOk 400 rfl ?_
  obtain ⟨x8, hx8, hF⟩ := bnd_some hF
  refine Exec.callS (.bool (x8)) rfl rfl (W_clockworkref31_FewMails (([x1] : List TMail)) h5 hx8) ?_
  refine Exec.run tyOk 400 rfl ?_
  rcases cond_some hF with ⟨hb, hF⟩ | ⟨hb, hF⟩
  · skip
    refine Exec.ifT rfl hb ?_
    refine Exec.run tyOk 400 rfl ?_
    obtain ⟨x9, hx9, hF⟩ := bnd_some hF
    refine Exec.callS (.bool (x9)) rfl rfl (W_clockworklaw31_lives   hx9) ?_
    refine Exec.run tyOk 400 rfl ?_
    obtain rfl := some_inj hF
    exact Exec.ret tyOk rfl rfl rfl
  · skip
    refine Exec.ifF rfl hb ?_
    refine Exec.run tyOk 400 rfl ?_
    obtain ⟨x10, hx10, hF⟩ := bnd_some hF
    refine Exec.call rfl rfl (W_exchange_Decode x4  hx10) ?_
    rintro V13 _ hv13 ⟨a11, k11, a12, k12, rfl, h11, h12⟩
    have h14 := SlAt.mono h6 hv13
    have h15 := SlAt.mono h7 hv13
    have h16 := SlAt.mono h5 hv13
    refine Exec.run tyOk 400 rfl ?_
    obtain ⟨x17, hx17, hF⟩ := bnd_some hF
    refine Exec.call rfl rfl (W_clockworkref31_Decode x4  hx17) ?_
    rintro V20 _ hv20 ⟨a18, k18, a19, k19, rfl, h18, h19⟩
    have h21 := SlAt.mono h14 hv20
    have h22 := SlAt.mono h15 hv20
    have h23 := SlAt.mono h16 hv20
    have h24 := SlAt.mono h11 hv20
    have h25 := SlAt.mono h12 hv20
    refine Exec.run tyOk 400 rfl ?_
    refine Exec.draws tyOk [(0, true), (2, true), (1, false), (3, false), (4, false), (5, false), (6, true), (7, false), (8, false), (9, false), (10, false), (11, true), (12, false), (13, false), (14, false), (15, false), (16, false), (17, false), (18, false)] rfl (by kernel_rfl) ?_
    refine Exec.run tyOk 400 rfl ?_
    obtain ⟨x26, hx26, hF⟩ := bnd_some hF
    refine Exec.callS (.string ⟨⟨x26⟩⟩) rfl rfl (W_exchange_Encode x1 h21 h22 hx26) ?_
    refine Exec.run tyOk 400 rfl ?_
    obtain ⟨x27, hx27, hF⟩ := bnd_some hF
    refine Exec.callS (.string ⟨⟨x27⟩⟩) rfl rfl (W_clockworkref31_Encode x1 h21 h22 hx27) ?_
    refine Exec.run tyOk 400 rfl ?_
    obtain ⟨x28, hx28, hF⟩ := bnd_some hF
    refine Exec.callS (.bool (x28)) rfl rfl (fun gg0 => W_clockworkref31_Same x10.1 x17.1 h24 h25 h18 h19 (gcall_some hx28 (gd1_of gg0))) ?_
    refine Exec.run tyOk 400 rfl ?_
    obtain ⟨x29, hx29, hF⟩ := bnd_some hF
    refine Exec.callS (.bool (x29)) rfl rfl (fun gg0 => W_clockworklaw31_lives   (gcall_some hx29 (gd1_of gg0))) ?_
    refine Exec.run tyOk 400 rfl ?_
    obtain rfl := some_inj hF
    exact Exec.ret tyOk rfl rfl rfl

def F_clockworklaw31_ExchangeRoundTrips (x1 : TMail) (x4 : Str) : Option Bool :=
  (bnd (F_clockworkref31_FewMails (([x1] : List TMail))) fun x8 => (cond ((!x8) || (decide ((500 : Int) < ((x4).length : Int)))) (bnd (F_clockworklaw31_lives ) fun x9 => (some x9)) (bnd (F_exchange_Encode x1) fun x10 => (bnd (F_exchange_Decode x10) fun x11 => (bnd (F_clockworkref31_Valid x1) fun x18 => (jn ((bnd (F_exchange_Decode x4) fun x21 => (bnd (gcall (((x21.2 != (0 : Int))) == false) (F_exchange_Encode x21.1)) fun x25 => (bnd (gcall ((((x25 == x4)) == true) && (((x21.2 != (0 : Int))) == false)) (F_clockworkref31_Valid x21.1)) fun x26 => (bnd (gcall ((((x21.2 != (0 : Int)) || ((x25 == x4) && x26))) == true) (F_clockworklaw31_lives )) fun x27 => (some (((x21.2 != (0 : Int)) || ((x25 == x4) && x26)) && x27))))))) (fun J19 => (cond x18 (bnd (gcall (((x11.2 != (0 : Int))) == false) (F_clockworkref31_Same x11.1 x1)) fun x28 => (cond ((x11.2 != (0 : Int)) || (!x28)) (some false) J19)) (bnd (gcall (((x11.2 == (0 : Int))) == true) (F_clockworkref31_Valid x11.1)) fun x29 => (bnd (gcall ((((!x29)) == false) && (((x11.2 == (0 : Int))) == true)) (F_clockworkref31_Same x11.1 x1)) fun x30 => (cond ((x11.2 == (0 : Int)) && ((!x29) || x30)) (some false) J19)))))))))))

set_option maxRecDepth 100000 in
theorem W_clockworklaw31_ExchangeRoundTrips {V : View} (x1 : TMail) (x4 : Str) {a2 : Option Addr} {k2 : Nat} {a3 : Option Addr} {k3 : Nat} (h2 : SlAt cStr V a2 k2 x1.Keys) (h3 : SlAt cTPair V a3 k3 x1.Pairs) {r : Bool} (hF : F_clockworklaw31_ExchangeRoundTrips x1 x4 = some r) :
    Spec Tryz.prog 8 [.agg ⟨[.int .i64 (x1.Txn), .int .i64 (x1.From), .int .i64 (x1.To), .slice a2 ((x1.Keys).length) (k2), .slice a3 ((x1.Pairs).length) (k3)]⟩, .string ⟨⟨x4⟩⟩] V (fun _ v => v = .bool (r)) := by
  unfold F_clockworklaw31_ExchangeRoundTrips at hF
  refine Spec.enter (T := tyT) Tryz.func8 rfl (by kernel_rfl) rfl rfl rfl ?_
  refine Exec.run tyOk 400 rfl ?_
  refine Exec.bsV tyOk rfl rfl rfl rfl rfl (fun V5 a5 hv5 hd5 => ?_)
  have h6 := SlAt.mono h2 hv5
  have h7 := SlAt.mono h3 hv5
  have h5 : SlAt cTMail V5 (some a5) 1 ([x1] : List TMail) := RowRep.slat (c := cTMail) (V := V5) (cs := [.int .i64 (x1.Txn), .int .i64 (x1.From), .int .i64 (x1.To), .slice a2 ((x1.Keys).length) (k2), .slice a3 ((x1.Pairs).length) (k3)]) ⟨_, _, rfl, ⟨_, _, _, _, rfl, (SlAt.mono h2 hv5), (SlAt.mono h3 hv5)⟩, rfl⟩ (VLe.refl _) (fun _ => hd5) (by simp)
  refine Exec.run tyOk 400 rfl ?_
  obtain ⟨x8, hx8, hF⟩ := bnd_some hF
  refine Exec.callS (.bool (x8)) rfl rfl (W_clockworkref31_FewMails (([x1] : List TMail)) h5 hx8) ?_
  refine Exec.run tyOk 400 rfl ?_
  rcases cond_some hF with ⟨hb, hF⟩ | ⟨hb, hF⟩
  · skip
    refine Exec.ifT rfl hb ?_
    refine Exec.run tyOk 400 rfl ?_
    obtain ⟨x9, hx9, hF⟩ := bnd_some hF
    refine Exec.callS (.bool (x9)) rfl rfl (W_clockworklaw31_lives   hx9) ?_
    refine Exec.run tyOk 400 rfl ?_
    obtain rfl := some_inj hF
    exact Exec.ret tyOk rfl rfl rfl
  · skip
    refine Exec.ifF rfl hb ?_
    refine Exec.run tyOk 400 rfl ?_
    obtain ⟨x10, hx10, hF⟩ := bnd_some hF
    refine Exec.callS (.string ⟨⟨x10⟩⟩) rfl rfl (W_exchange_Encode x1 h6 h7 hx10) ?_
    refine Exec.run tyOk 400 rfl ?_
    obtain ⟨x11, hx11, hF⟩ := bnd_some hF
    refine Exec.call rfl rfl (W_exchange_Decode x10  hx11) ?_
    rintro V14 _ hv14 ⟨a12, k12, a13, k13, rfl, h12, h13⟩
    have h15 := SlAt.mono h6 hv14
    have h16 := SlAt.mono h7 hv14
    have h17 := SlAt.mono h5 hv14
    refine Exec.run tyOk 400 rfl ?_
    obtain ⟨x18, hx18, hF⟩ := bnd_some hF
    refine Exec.callS (.bool (x18)) rfl rfl (W_clockworkref31_Valid x1 h15 h16 hx18) ?_
    refine Exec.run tyOk 400 rfl ?_
    obtain ⟨J19, hJ19, hF⟩ := jn_some hF
    refine Exec.seam (fun L' V' M' => L' = [(1, .v (.string ⟨⟨x4⟩⟩))] ∧ M' = [] ∧ J19 = some r) rfl ?_ ?_
    · rintro L' V20 M' ⟨rfl, rfl, hF⟩
      subst hJ19
      refine Exec.run tyOk 400 rfl ?_
      obtain ⟨x21, hx21, hF⟩ := bnd_some hF
      refine Exec.call rfl rfl (W_exchange_Decode x4  hx21) ?_
      rintro V24 _ hv24 ⟨a22, k22, a23, k23, rfl, h22, h23⟩
      refine Exec.run tyOk 400 rfl ?_
      obtain ⟨x25, hx25, hF⟩ := bnd_some hF
      refine Exec.callS (.string ⟨⟨x25⟩⟩) rfl rfl (fun gg0 => W_exchange_Encode x21.1 h22 h23 (gcall_some hx25 (gd1_of gg0))) ?_
      refine Exec.run tyOk 400 rfl ?_
      obtain ⟨x26, hx26, hF⟩ := bnd_some hF
      refine Exec.callS (.bool (x26)) rfl rfl (fun gg0 gg1 => W_clockworkref31_Valid x21.1 h22 h23 (gcall_some hx26 (gd2_of gg0 gg1))) ?_
      refine Exec.run tyOk 400 rfl ?_
      obtain ⟨x27, hx27, hF⟩ := bnd_some hF
      refine Exec.callS (.bool (x27)) rfl rfl (fun gg0 => W_clockworklaw31_lives   (gcall_some hx27 (gd1_of gg0))) ?_
      refine Exec.run tyOk 400 rfl ?_
      obtain rfl := some_inj hF
      exact Exec.ret tyOk rfl rfl rfl
    · skip
      refine Exec.run tyOk 400 rfl ?_
      rcases cond_some hF with ⟨hb, hF⟩ | ⟨hb, hF⟩
      · skip
        refine Exec.ifT rfl hb ?_
        refine Exec.run tyOk 400 rfl ?_
        obtain ⟨x28, hx28, hF⟩ := bnd_some hF
        refine Exec.callS (.bool (x28)) rfl rfl (fun gg0 => W_clockworkref31_Same x11.1 x1 h12 h13 h15 h16 (gcall_some hx28 (gd1_of gg0))) ?_
        refine Exec.run tyOk 400 rfl ?_
        rcases cond_some hF with ⟨hb, hF⟩ | ⟨hb, hF⟩
        · skip
          refine Exec.ifT rfl hb ?_
          refine Exec.run tyOk 400 rfl ?_
          obtain rfl := some_inj hF
          exact Exec.ret tyOk rfl rfl rfl
        · skip
          refine Exec.ifF rfl hb ?_
          refine Exec.run tyOk 400 rfl ?_
          refine Exec.cut 0 [(1, .v (.string ⟨⟨x4⟩⟩))] (M' := []) rfl ⟨rfl, trivial⟩ rfl rfl rfl ?_
          exact Exec.round [(1, .v (.string ⟨⟨x4⟩⟩))] ⟨rfl, trivial⟩ ⟨rfl, rfl, hF⟩
      · skip
        refine Exec.ifF rfl hb ?_
        refine Exec.run tyOk 400 rfl ?_
        obtain ⟨x29, hx29, hF⟩ := bnd_some hF
        refine Exec.callS (.bool (x29)) rfl rfl (fun gg0 => W_clockworkref31_Valid x11.1 h12 h13 (gcall_some hx29 (gd1_of gg0))) ?_
        refine Exec.run tyOk 400 rfl ?_
        obtain ⟨x30, hx30, hF⟩ := bnd_some hF
        refine Exec.callS (.bool (x30)) rfl rfl (fun gg0 gg1 => W_clockworkref31_Same x11.1 x1 h12 h13 h15 h16 (gcall_some hx30 (gd2_of gg0 gg1))) ?_
        refine Exec.run tyOk 400 rfl ?_
        rcases cond_some hF with ⟨hb, hF⟩ | ⟨hb, hF⟩
        · skip
          refine Exec.ifT rfl hb ?_
          refine Exec.run tyOk 400 rfl ?_
          obtain rfl := some_inj hF
          exact Exec.ret tyOk rfl rfl rfl
        · skip
          refine Exec.ifF rfl hb ?_
          refine Exec.run tyOk 400 rfl ?_
          refine Exec.cut 0 [(1, .v (.string ⟨⟨x4⟩⟩))] (M' := []) rfl ⟨rfl, trivial⟩ rfl rfl rfl ?_
          exact Exec.round [(1, .v (.string ⟨⟨x4⟩⟩))] ⟨rfl, trivial⟩ ⟨rfl, rfl, hF⟩

end Go.Proofs.YtcgmfmpfmfjmoaaGreat
