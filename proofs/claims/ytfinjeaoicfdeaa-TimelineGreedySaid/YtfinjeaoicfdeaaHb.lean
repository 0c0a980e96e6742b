/-
  Functions of the program as their counterparts say them (printed by a program).
  Conditions: none.
-/
import Derived.Test.YtfinjeaoicfdeaaHa
namespace Go.Proofs.Ytfinjeaoicfdeaa

def F_clockworkref04_Valid_L1 (x1 : Str) (J2 : Option Bool) : Nat → Int → Option Bool
  | 0, _ => none
  | n5 + 1, x4 => (cond (decide (x4 < ((x1).length : Int))) (req (0 ≤ x4 ∧ x4 < ((x1).length : Int)) (cond (((((((decide ((byteAt x1 (x4).toNat) < (97 : Int))) || (decide ((122 : Int) < (byteAt x1 (x4).toNat)))) && ((decide ((byteAt x1 (x4).toNat) < (48 : Int))) || (decide ((57 : Int) < (byteAt x1 (x4).toNat))))) && ((byteAt x1 (x4).toNat) != (47 : Int))) && ((byteAt x1 (x4).toNat) != (46 : Int))) && ((byteAt x1 (x4).toNat) != (95 : Int))) && ((byteAt x1 (x4).toNat) != (45 : Int))) (some false) (F_clockworkref04_Valid_L1 x1 J2 n5 ((IntKind.i64.wrap (x4 + (1 : Int))))))) J2)

def F_clockworkref04_Valid (x1 : Str) : Option Bool :=
  (jn ((some ((decide ((1 : Int) ≤ ((x1).length : Int))) && (decide (((x1).length : Int) ≤ (24 : Int)))))) (fun J2 => (F_clockworkref04_Valid_L1 x1 J2 ((((x1).length : Int)).toNat + 1) ((0 : Int)))))

set_option maxRecDepth 100000 in
theorem W_clockworkref04_Valid {V : View} (x1 : Str)   {r : Bool} (hF : F_clockworkref04_Valid x1 = some r) :
    Spec Try.prog 61 [.string ⟨⟨x1⟩⟩] V (fun _ v => v = .bool (r)) := by
  unfold F_clockworkref04_Valid at hF
  refine Spec.enter (T := tyT) Try.func61 rfl (by kernel_rfl) rfl rfl rfl ?_
  refine Exec.run tyOk 9 rfl ?_
  obtain ⟨J2, hJ2, hF⟩ := jn_some hF
  refine Exec.seam (fun L' V' M' => L' = [(0, .v (.string ⟨⟨x1⟩⟩))] ∧ M' = [] ∧ J2 = some r) rfl ?_ ?_
  · rintro L' V3 M' ⟨rfl, rfl, hF⟩
    subst hJ2
    refine Exec.run tyOk 400 rfl ?_
    obtain rfl := some_inj hF
    exact Exec.ret tyOk rfl rfl rfl
  · skip
    refine Exec.run tyOk 400 rfl ?_
    refine Exec.loop (fun n5 L' V' M' => ∃ (x4 : Int), L' = [(0, .v (.string ⟨⟨x1⟩⟩)), (3, .v (.int .i64 (x4)))] ∧ M' = [] ∧ F_clockworkref04_Valid_L1 x1 J2 n5 x4 = some r) ⟨((((x1).length : Int)).toNat + 1), [(0, .v (.string ⟨⟨x1⟩⟩)), (3, .v (.int .i64 ((0 : Int))))], ⟨rfl, rfl, trivial⟩, (0 : Int), rfl, rfl, hF⟩ ?_
    rintro n5 L' V6 M' ⟨x4, rfl, rfl, hF⟩
    rcases n5 with _ | n5
    · exact absurd hF (by simp [F_clockworkref04_Valid_L1])
    rw [F_clockworkref04_Valid_L1] at hF
    refine Exec.run tyOk 400 rfl ?_
    rcases cond_some hF with ⟨hb, hF⟩ | ⟨hb, hF⟩
    · skip
      refine Exec.ifT rfl hb ?_
      refine Exec.run tyOk 400 rfl ?_
      obtain ⟨q7, hF⟩ := req_some hF
      refine Exec.idx tyOk rfl rfl q7 ?_
      refine Exec.run tyOk 400 rfl ?_
      rcases cond_some hF with ⟨hb, hF⟩ | ⟨hb, hF⟩
      · skip
        refine Exec.ifT rfl hb ?_
        refine Exec.run tyOk 400 rfl ?_
        obtain rfl := some_inj hF
        exact Exec.ret tyOk rfl rfl rfl
      · skip
        refine Exec.ifF rfl hb ?_
        refine Exec.run tyOk 400 rfl ?_
        exact Exec.round [(0, .v (.string ⟨⟨x1⟩⟩)), (3, .v (.int .i64 ((IntKind.i64.wrap (x4 + (1 : Int))))))] ⟨rfl, rfl, trivial⟩ ⟨n5, Nat.lt_succ_self _, (IntKind.i64.wrap (x4 + (1 : Int))), rfl, rfl, hF⟩
    · skip
      refine Exec.ifF rfl hb ?_
      refine Exec.run tyOk 400 rfl ?_
      exact Exec.round [(0, .v (.string ⟨⟨x1⟩⟩))] ⟨rfl, trivial⟩ ⟨rfl, rfl, hF⟩

def F_clockworkref25_Few_L1 (x1 : List TFootprint) (J4 : Option Bool) : Nat → Int → Option Bool
  | 0, _ => none
  | n7 + 1, x6 => (cond (decide (x6 < (((x1).length : Nat) : Int))) (req (0 ≤ x6 ∧ x6 < ((x1).length : Int)) (bnd (F_clockworkref19_Few ((atI x1 x6)) ((8 : Int))) fun x14 => (cond (!x14) (some false) (F_clockworkref25_Few_L1 x1 J4 n7 ((IntKind.i64.wrap (x6 + (1 : Int)))))))) J4)

def F_clockworkref25_Few (x1 : List TFootprint) (x3 : Int) : Option Bool :=
  (cond (decide (x3 < (((x1).length : Nat) : Int))) (some false) (jn ((some true)) (fun J4 => (F_clockworkref25_Few_L1 x1 J4 (((((x1).length : Nat) : Int)).toNat + 1) ((0 : Int))))))

set_option maxRecDepth 100000 in
theorem W_clockworkref25_Few {V : View} (x1 : List TFootprint) (x3 : Int) {a2 : Option Addr} {k2 : Nat} (h2 : SlAt cTFootprint V a2 k2 x1) {r : Bool} (hF : F_clockworkref25_Few x1 x3 = some r) :
    Spec Try.prog 9 [.slice a2 ((x1).length) (k2), .int .i64 (x3)] V (fun _ v => v = .bool (r)) := by
  unfold F_clockworkref25_Few at hF
  refine Spec.enter (T := tyT) Try.func9 rfl (by kernel_rfl) rfl rfl rfl ?_
  refine Exec.run tyOk 400 rfl ?_
  rcases cond_some hF with ⟨hb, hF⟩ | ⟨hb, hF⟩
  · skip
    refine Exec.ifT rfl hb ?_
    refine Exec.run tyOk 400 rfl ?_
    obtain rfl := some_inj hF
    exact Exec.ret tyOk rfl rfl rfl
  · skip
    refine Exec.ifF rfl hb ?_
    refine Exec.run tyOk 6 rfl ?_
    obtain ⟨J4, hJ4, hF⟩ := jn_some hF
    refine Exec.seam (fun L' V' M' => L' = [] ∧ M' = [] ∧ J4 = some r) rfl ?_ ?_
    · rintro L' V5 M' ⟨rfl, rfl, hF⟩
      subst hJ4
      refine Exec.run tyOk 400 rfl ?_
      obtain rfl := some_inj hF
      exact Exec.ret tyOk rfl rfl rfl
    · skip
      refine Exec.run tyOk 400 rfl ?_
      refine Exec.loop (fun n7 L' V' M' => ∃ (x6 : Int), L' = [(0, .v (.slice a2 ((x1).length) (k2))), (5, .v (.int .i64 (x6)))] ∧ M' = [] ∧ SlAt cTFootprint V' a2 k2 x1 ∧ F_clockworkref25_Few_L1 x1 J4 n7 x6 = some r) ⟨(((((x1).length : Nat) : Int)).toNat + 1), [(0, .v (.slice a2 ((x1).length) (k2))), (5, .v (.int .i64 ((0 : Int))))], ⟨rfl, rfl, trivial⟩, (0 : Int), rfl, rfl, h2, hF⟩ ?_
      rintro n7 L' V8 M' ⟨x6, rfl, rfl, h9, hF⟩
      rcases n7 with _ | n7
      · exact absurd hF (by simp [F_clockworkref25_Few_L1])
      rw [F_clockworkref25_Few_L1] at hF
      refine Exec.run tyOk 400 rfl ?_
      rcases cond_some hF with ⟨hb, hF⟩ | ⟨hb, hF⟩
      · skip
        refine Exec.ifT rfl hb ?_
        refine Exec.run tyOk 400 rfl ?_
        obtain ⟨q10, hF⟩ := req_some hF
        obtain ⟨c11, hr11, hd11⟩ := SlAt.get h9 q10
        obtain ⟨a12, k12, a13, k13, rfl, h12, h13⟩ := hr11
        refine Exec.ia tyOk rfl rfl ⟨q10.1, q10.2, hd11.some⟩ ?_
        refine Exec.run tyOk 400 rfl ?_
        refine Exec.ld tyOk (x := .agg ⟨[.bool ((atI x1 x6).All), .slice a12 (((atI x1 x6).Reads).length) (k12), .slice a13 (((atI x1 x6).Writes).length) (k13)]⟩) rfl rfl hd11 rfl rfl ?_
        refine Exec.run tyOk 400 rfl ?_
        obtain ⟨x14, hx14, hF⟩ := bnd_some hF
        refine Exec.callS (.bool (x14)) rfl rfl (W_clockworkref19_Few ((atI x1 x6)) ((8 : Int)) h12 h13 hx14) ?_
        refine Exec.run tyOk 400 rfl ?_
        rcases cond_some hF with ⟨hb, hF⟩ | ⟨hb, hF⟩
        · skip
          refine Exec.ifT rfl hb ?_
          refine Exec.run tyOk 400 rfl ?_
          obtain rfl := some_inj hF
          exact Exec.ret tyOk rfl rfl rfl
        · skip
          refine Exec.ifF rfl hb ?_
          refine Exec.run tyOk 400 rfl ?_
          exact Exec.round [(0, .v (.slice a2 ((x1).length) (k2))), (5, .v (.int .i64 ((IntKind.i64.wrap (x6 + (1 : Int))))))] ⟨rfl, rfl, trivial⟩ ⟨n7, Nat.lt_succ_self _, (IntKind.i64.wrap (x6 + (1 : Int))), rfl, rfl, h9, hF⟩
      · skip
        refine Exec.ifF rfl hb ?_
        refine Exec.run tyOk 400 rfl ?_
        exact Exec.round [] trivial ⟨rfl, rfl, hF⟩

def F_timeline_Limited_L2 (x1 : List (List Int)) (x21 : Int) (x20 : List TSpan) (J42 : Int → Option (List TSpan × Int)) : Nat → Int → Int → Option (List TSpan × Int)
  | 0, _, _ => none
  | n60 + 1, x58, x59 => (cond (decide (x59 < ((((atI x1 x21)).length : Nat) : Int))) (req (0 ≤ x59 ∧ x59 < (((atI x1 x21)).length : Int)) (req (0 ≤ (atI ((atI x1 x21)) x59) ∧ (atI ((atI x1 x21)) x59) < ((x20).length : Int)) (F_timeline_Limited_L2 x1 x21 x20 J42 n60 ((max x58 (atI x20 ((atI ((atI x1 x21)) x59))).End)) ((IntKind.i64.wrap (x59 + (1 : Int))))))) (J42 x58))

def F_timeline_Limited_L3 (x5 : Int) (x18 : List Int) (J29 : Int → Option (List TSpan × Int)) : Nat → Int → Int → Option (List TSpan × Int)
  | 0, _, _ => none
  | n74 + 1, x72, x73 => (cond (decide (x73 < x5)) (req (0 ≤ x73 ∧ x73 < ((x18).length : Int)) (req (0 ≤ x72 ∧ x72 < ((x18).length : Int)) (jn (fun (x86 : Int) => (F_timeline_Limited_L3 x5 x18 J29 n74 x86 ((IntKind.i64.wrap (x73 + (1 : Int)))))) (fun J87 => (cond (decide ((atI x18 x73) < (atI x18 x72))) (J87 x73) (J87 x72)))))) (J29 x72))

def F_timeline_Limited_L1 (x1 : List (List Int)) (x3 : List Int) (x5 : Int) (J13 : (List Int) → (List TSpan) → Option (List TSpan × Int)) : Nat → (List Int) → (List TSpan) → Int → Option (List TSpan × Int)
  | 0, _, _, _ => none
  | n22 + 1, x18, x20, x21 => (cond (decide (x21 < (((x1).length : Nat) : Int))) (jn (fun (x28 : Int) => (req (0 ≤ x28 ∧ x28 < ((x18).length : Int)) (req (0 ≤ x21 ∧ x21 < ((x1).length : Int)) (jn (fun (x41 : Int) => (req (0 ≤ x21 ∧ x21 < ((x3).length : Int)) (req (((x20 ++ [(⟨x21, x28, x41, (IntKind.i64.wrap (x41 + (atI x3 x21)))⟩ : TSpan)])).length * 32 ≤ 140737488355328) (req (0 ≤ x21 ∧ x21 < ((x3).length : Int)) (req (0 ≤ x28 ∧ x28 < ((x18).length : Int)) (F_timeline_Limited_L1 x1 x3 x5 J13 n22 ((x18.set (x28).toNat ((IntKind.i64.wrap (x41 + (atI x3 x21)))))) ((x20 ++ [(⟨x21, x28, x41, (IntKind.i64.wrap (x41 + (atI x3 x21)))⟩ : TSpan)])) ((IntKind.i64.wrap (x21 + (1 : Int)))))))))) (fun J42 => (F_timeline_Limited_L2 x1 x21 x20 J42 ((((((atI x1 x21)).length : Nat) : Int)).toNat + 1) ((atI x18 x28)) ((0 : Int)))))))) (fun J29 => (F_timeline_Limited_L3 x5 x18 J29 ((x5).toNat + 1) ((0 : Int)) ((0 : Int))))) (J13 x18 x20))

def F_timeline_Limited (x1 : List (List Int)) (x3 : List Int) (x5 : Int) : Option (List TSpan × Int) :=
  (bnd (F_timeline_valid x1 x3 x5) fun x6 => (cond (!x6) (some (([] : List TSpan), (1 : Int))) (jn (fun (x10 : List Int) (x12 : List TSpan) => (some (x12, (0 : Int)))) (fun J13 => (F_timeline_Limited_L1 x1 x3 x5 J13 (((((x1).length : Nat) : Int)).toNat + 1) ((List.replicate 64 (0 : Int))) (([] : List TSpan)) ((0 : Int)))))))

set_option maxRecDepth 100000 in
theorem W_timeline_Limited {V : View} (x1 : List (List Int)) (x3 : List Int) (x5 : Int) {a2 : Option Addr} {k2 : Nat} {a4 : Option Addr} {k4 : Nat} (h2 : SlAt (cSl (cInt .i64)) V a2 k2 x1) (h4 : SlAt (cInt .i64) V a4 k4 x3) {r : List TSpan × Int} (hF : F_timeline_Limited x1 x3 x5 = some r) :
    Spec Try.prog 18 [.slice a2 ((x1).length) (k2), .slice a4 ((x3).length) (k4), .int .i64 (x5)] V (fun V' v => ∃ (a91 : Option Addr) (k91 : Nat), v = .tuple ⟨[.slice a91 ((r.1).length) (k91), .int .i64 (r.2)]⟩ ∧ SlAt cTSpan V' a91 k91 r.1) := by
  unfold F_timeline_Limited at hF
  refine Spec.enter (T := tyT) Try.func18 rfl (by kernel_rfl) rfl rfl rfl ?_
  refine Exec.run tyOk 400 rfl ?_
  obtain ⟨x6, hx6, hF⟩ := bnd_some hF
  refine Exec.callS (.bool (x6)) rfl rfl (W_timeline_valid x1 x3 x5 h2 h4 hx6) ?_
  refine Exec.run tyOk 400 rfl ?_
  rcases cond_some hF with ⟨hb, hF⟩ | ⟨hb, hF⟩
  · skip
    refine Exec.ifT rfl hb ?_
    refine Exec.run tyOk 400 rfl ?_
    obtain rfl := some_inj hF
    exact Exec.ret tyOk rfl rfl ⟨_, _, rfl, SlAt.nil⟩
  · skip
    refine Exec.ifF rfl hb ?_
    refine Exec.run tyOk 16 rfl ?_
    refine Exec.fixA 0 (n := 64) (sz := 1) (cs := (List.replicate 64 (.int .i64 0))) rfl rfl rfl rfl rfl (fun _ => rfl) (fun _ => rfl) (fun b7 => ?_)
    have h7 : RowRep (cInt .i64) V (List.replicate 64 (0 : Int)) (List.replicate 64 [.int .i64 0]).flatten := RowRep.reps (c := (cInt .i64)) rfl 64
    rw [flat_one] at h7
    refine Exec.row0 31 4 rfl ?_
    have h8 : RowRep cTSpan V ([] : List TSpan) [] := RowRep.nil
    obtain ⟨J13, hJ13, hF⟩ := jn_some hF
    refine Exec.seam (fun L' V' M' => ∃ (x10 : List Int) (cs9 : List Value) (x12 : List TSpan) (a11 : Option Addr) (k11 : Nat) (cs11 : List Value), L' = [(9, .v (.slice a11 ((x12).length) (k11)))] ∧ M' = [.row (.slice ((some ⟨b7, 0, none⟩)) (64) (64)) cs9 50 1, .row (.slice a11 ((x12).length) (k11)) cs11 31 4] ∧ RowRep (cInt .i64) V' x10 cs9 ∧ RowRep cTSpan V' x12 cs11 ∧ J13 x10 x12 = some r) rfl ?_ ?_
    · rintro L' V14 M' ⟨x10, cs9, x12, a11, k11, cs11, rfl, rfl, h9, h11, hF⟩
      subst hJ13
      refine Exec.run tyOk 400 rfl ?_
      refine Exec.frz 1 rfl rfl rfl (fun V15 hv15 hd15 hn15 => ?_)
      have hz15 := RowRep.slat h11 hv15 hd15 hn15
      have h16 := RowRep.mono hv15 h9
      obtain rfl := some_inj hF
      exact Exec.ret tyOk rfl rfl ⟨_, _, rfl, hz15⟩
    · skip
      refine Exec.run tyOk 400 rfl ?_
      refine Exec.loop (fun n22 L' V' M' => ∃ (x18 : List Int) (cs17 : List Value) (x20 : List TSpan) (a19 : Option Addr) (k19 : Nat) (cs19 : List Value) (x21 : Int), L' = [(0, .v (.slice a2 ((x1).length) (k2))), (1, .v (.slice a4 ((x3).length) (k4))), (2, .v (.int .i64 (x5))), (8, .v (.pointer (some ⟨b7, 0, none⟩))), (9, .v (.slice a19 ((x20).length) (k19))), (22, .v (.int .i64 ((((x1).length : Nat) : Int)))), (23, .v (.int .i64 (x21)))] ∧ M' = [.row (.slice ((some ⟨b7, 0, none⟩)) (64) (64)) cs17 50 1, .row (.slice a19 ((x20).length) (k19)) cs19 31 4] ∧ RowRep (cInt .i64) V' x18 cs17 ∧ RowRep cTSpan V' x20 cs19 ∧ SlAt (cSl (cInt .i64)) V' a2 k2 x1 ∧ SlAt (cInt .i64) V' a4 k4 x3 ∧ F_timeline_Limited_L1 x1 x3 x5 J13 n22 x18 x20 x21 = some r) ⟨(((((x1).length : Nat) : Int)).toNat + 1), [(0, .v (.slice a2 ((x1).length) (k2))), (1, .v (.slice a4 ((x3).length) (k4))), (2, .v (.int .i64 (x5))), (8, .v (.pointer (some ⟨b7, 0, none⟩))), (9, .v (.slice none ((([] : List TSpan)).length) (0))), (22, .v (.int .i64 ((((x1).length : Nat) : Int)))), (23, .v (.int .i64 ((0 : Int))))], ⟨rfl, rfl, rfl, rfl, rfl, rfl, rfl, trivial⟩, (List.replicate 64 (0 : Int)), (List.replicate 64 (.int .i64 0)), ([] : List TSpan), none, 0, [], (0 : Int), rfl, rfl, h7, h8, h2, h4, hF⟩ ?_
      rintro n22 L' V23 M' ⟨x18, cs17, x20, a19, k19, cs19, x21, rfl, rfl, h17, h19, h24, h25, hF⟩
      rcases n22 with _ | n22
      · exact absurd hF (by simp [F_timeline_Limited_L1])
      rw [F_timeline_Limited_L1] at hF
      refine Exec.run tyOk 400 rfl ?_
      rcases cond_some hF with ⟨hb, hF⟩ | ⟨hb, hF⟩
      · skip
        refine Exec.ifT rfl hb ?_
        refine Exec.run tyOk 18 rfl ?_
        obtain ⟨J29, hJ29, hF⟩ := jn_some hF
        refine Exec.seam (fun L' V' M' => ∃ (x28 : Int), L' = [(0, .v (.slice a2 ((x1).length) (k2))), (1, .v (.slice a4 ((x3).length) (k4))), (2, .v (.int .i64 (x5))), (8, .v (.pointer (some ⟨b7, 0, none⟩))), (9, .v (.slice a19 ((x20).length) (k19))), (10, .v (.int .i64 (x21))), (11, .v (.int .i64 (x28))), (22, .v (.int .i64 ((((x1).length : Nat) : Int)))), (23, .v (.int .i64 (x21)))] ∧ M' = [.row (.slice ((some ⟨b7, 0, none⟩)) (64) (64)) cs17 50 1, .row (.slice a19 ((x20).length) (k19)) cs19 31 4] ∧ RowRep (cInt .i64) V' x18 cs17 ∧ RowRep cTSpan V' x20 cs19 ∧ SlAt (cSl (cInt .i64)) V' a2 k2 x1 ∧ SlAt (cInt .i64) V' a4 k4 x3 ∧ J29 x28 = some r) rfl ?_ ?_
        · rintro L' V30 M' ⟨x28, rfl, rfl, h26, h27, h31, h32, hF⟩
          subst hJ29
          refine Exec.run tyOk 400 rfl ?_
          obtain ⟨q33, hF⟩ := req_some hF
          refine Exec.rowI 0 rfl (fun ra34 rb34 rc34 => ?_)
          obtain ⟨c35, hr35, hd35⟩ := h26.get q33
          obtain rfl := hr35
          have rl34 := RowRep.len h26
          refine Exec.iaA tyOk rfl rfl (ixA q33 rl34 ra34 (cInt .i64).pos) ?_
          refine Exec.run tyOk 400 rfl ?_
          refine Exec.ldR tyOk 0 (x := .int .i64 ((atI x18 x28))) rfl rfl rfl ⟨hd35, ⟨_, _, rfl⟩⟩ rfl rfl ?_
          refine Exec.run tyOk 400 rfl ?_
          obtain ⟨q36, hF⟩ := req_some hF
          obtain ⟨c37, hr37, hd37⟩ := SlAt.get h31 q36
          obtain ⟨a38, k38, rfl, h38⟩ := hr37
          refine Exec.ia tyOk rfl rfl ⟨q36.1, q36.2, hd37.some⟩ ?_
          refine Exec.run tyOk 400 rfl ?_
          refine Exec.ld tyOk (x := .slice a38 (((atI x1 x21)).length) (k38)) rfl rfl hd37 rfl rfl ?_
          refine Exec.run tyOk 3 rfl ?_
          obtain ⟨J42, hJ42, hF⟩ := jn_some hF
          refine Exec.seam (fun L' V' M' => ∃ (x41 : Int), L' = [(0, .v (.slice a2 ((x1).length) (k2))), (1, .v (.slice a4 ((x3).length) (k4))), (2, .v (.int .i64 (x5))), (8, .v (.pointer (some ⟨b7, 0, none⟩))), (9, .v (.slice a19 ((x20).length) (k19))), (10, .v (.int .i64 (x21))), (11, .v (.int .i64 (x28))), (13, .v (.int .i64 (x41))), (22, .v (.int .i64 ((((x1).length : Nat) : Int)))), (23, .v (.int .i64 (x21)))] ∧ M' = [.row (.slice ((some ⟨b7, 0, none⟩)) (64) (64)) cs17 50 1, .row (.slice a19 ((x20).length) (k19)) cs19 31 4] ∧ RowRep (cInt .i64) V' x18 cs17 ∧ RowRep cTSpan V' x20 cs19 ∧ SlAt (cSl (cInt .i64)) V' a2 k2 x1 ∧ SlAt (cInt .i64) V' a4 k4 x3 ∧ J42 x41 = some r) rfl ?_ ?_
          · rintro L' V43 M' ⟨x41, rfl, rfl, h39, h40, h44, h45, hF⟩
            subst hJ42
            refine Exec.run tyOk 400 rfl ?_
            obtain ⟨q46, hF⟩ := req_some hF
            obtain ⟨c47, hr47, hd47⟩ := SlAt.get h45 q46
            obtain rfl := hr47
            refine Exec.ia tyOk rfl rfl ⟨q46.1, q46.2, hd47.some⟩ ?_
            refine Exec.run tyOk 400 rfl ?_
            refine Exec.ld tyOk (x := .int .i64 ((atI x3 x21))) rfl rfl hd47 rfl rfl ?_
            refine Exec.run tyOk 400 rfl ?_
            refine Exec.bsl tyOk rfl rfl ?_
            refine Exec.run tyOk 400 rfl ?_
            obtain ⟨q49, hF⟩ := req_some hF
            refine Exec.app tyOk 1 2 (nm := ((x20 ++ [(⟨x21, x28, x41, (IntKind.i64.wrap (x41 + (atI x3 x21)))⟩ : TSpan)])).length) rfl rfl rfl rfl rfl rfl rfl rfl rfl (by simp) (fun _ _ => rfl) rfl q49 (fun a48 k48 => ?_)
            have h48 : RowRep cTSpan V43 (x20 ++ [(⟨x21, x28, x41, (IntKind.i64.wrap (x41 + (atI x3 x21)))⟩ : TSpan)]) (cs19 ++ [.int .i64 (x21), .int .i64 (x28), .int .i64 (x41), .int .i64 ((IntKind.i64.wrap (x41 + (atI x3 x21))))]) := RowRep.app h40 ⟨_, _, rfl, rfl, rfl⟩
            refine Exec.run tyOk 400 rfl ?_
            obtain ⟨q50, hF⟩ := req_some hF
            obtain ⟨c51, hr51, hd51⟩ := SlAt.get h45 q50
            obtain rfl := hr51
            refine Exec.ia tyOk rfl rfl ⟨q50.1, q50.2, hd51.some⟩ ?_
            refine Exec.run tyOk 400 rfl ?_
            refine Exec.ld tyOk (x := .int .i64 ((atI x3 x21))) rfl rfl hd51 rfl rfl ?_
            refine Exec.run tyOk 400 rfl ?_
            obtain ⟨q52, hF⟩ := req_some hF
            refine Exec.rowI 0 rfl (fun ra53 rb53 rc53 => ?_)
            obtain ⟨c54, hr54, hd54⟩ := h39.get q52
            obtain rfl := hr54
            have rl53 := RowRep.len h39
            refine Exec.iaA tyOk rfl rfl (ixA q52 rl53 ra53 (cInt .i64).pos) ?_
            refine Exec.run tyOk 400 rfl ?_
            have rl55 := RowRep.len h39
            have h55 : RowRep (cInt .i64) V43 (x18.set (x28).toNat ((IntKind.i64.wrap (x41 + (atI x3 x21))))) (cs17.take ((x28).toNat * 1) ++ [.int .i64 ((IntKind.i64.wrap (x41 + (atI x3 x21))))] ++ cs17.drop (((x28).toNat * 1) + 1)) := RowRep.set h39 q52 rfl
            refine Exec.stR tyOk 0 rfl rfl rfl rfl rfl ⟨_, _, rfl⟩ (stB q52 rl55) rfl rfl rfl ?_
            refine Exec.run tyOk 400 rfl ?_
            refine Exec.cut 2 [(0, .v (.slice a2 ((x1).length) (k2))), (1, .v (.slice a4 ((x3).length) (k4))), (2, .v (.int .i64 (x5))), (8, .v (.pointer (some ⟨b7, 0, none⟩))), (9, .v (.slice a48 (((x20 ++ [(⟨x21, x28, x41, (IntKind.i64.wrap (x41 + (atI x3 x21)))⟩ : TSpan)])).length) (k48))), (22, .v (.int .i64 ((((x1).length : Nat) : Int)))), (23, .v (.int .i64 ((IntKind.i64.wrap (x21 + (1 : Int))))))] (M' := [.row (.slice ((some ⟨b7, 0, none⟩)) (64) (64)) ((cs17.take ((x28).toNat * 1) ++ [.int .i64 ((IntKind.i64.wrap (x41 + (atI x3 x21))))] ++ cs17.drop (((x28).toNat * 1) + 1))) 50 1, .row (.slice a48 (((x20 ++ [(⟨x21, x28, x41, (IntKind.i64.wrap (x41 + (atI x3 x21)))⟩ : TSpan)])).length) (k48)) ((cs19 ++ [.int .i64 (x21), .int .i64 (x28), .int .i64 (x41), .int .i64 ((IntKind.i64.wrap (x41 + (atI x3 x21))))])) 31 4]) rfl ⟨rfl, rfl, rfl, rfl, rfl, rfl, rfl, trivial⟩ rfl rfl rfl ?_
            exact Exec.round [(0, .v (.slice a2 ((x1).length) (k2))), (1, .v (.slice a4 ((x3).length) (k4))), (2, .v (.int .i64 (x5))), (8, .v (.pointer (some ⟨b7, 0, none⟩))), (9, .v (.slice a48 (((x20 ++ [(⟨x21, x28, x41, (IntKind.i64.wrap (x41 + (atI x3 x21)))⟩ : TSpan)])).length) (k48))), (22, .v (.int .i64 ((((x1).length : Nat) : Int)))), (23, .v (.int .i64 ((IntKind.i64.wrap (x21 + (1 : Int))))))] ⟨rfl, rfl, rfl, rfl, rfl, rfl, rfl, trivial⟩ ⟨n22, Nat.lt_succ_self _, (x18.set (x28).toNat ((IntKind.i64.wrap (x41 + (atI x3 x21))))), (cs17.take ((x28).toNat * 1) ++ [.int .i64 ((IntKind.i64.wrap (x41 + (atI x3 x21))))] ++ cs17.drop (((x28).toNat * 1) + 1)), (x20 ++ [(⟨x21, x28, x41, (IntKind.i64.wrap (x41 + (atI x3 x21)))⟩ : TSpan)]), a48, k48, (cs19 ++ [.int .i64 (x21), .int .i64 (x28), .int .i64 (x41), .int .i64 ((IntKind.i64.wrap (x41 + (atI x3 x21))))]), (IntKind.i64.wrap (x21 + (1 : Int))), rfl, rfl, h55, h48, h44, h45, hF⟩
          · skip
            refine Exec.run tyOk 400 rfl ?_
            refine Exec.loop (fun n60 L' V' M' => ∃ (x58 : Int) (x59 : Int), L' = [(0, .v (.slice a2 ((x1).length) (k2))), (1, .v (.slice a4 ((x3).length) (k4))), (2, .v (.int .i64 (x5))), (8, .v (.pointer (some ⟨b7, 0, none⟩))), (9, .v (.slice a19 ((x20).length) (k19))), (10, .v (.int .i64 (x21))), (11, .v (.int .i64 (x28))), (13, .v (.int .i64 (x58))), (22, .v (.int .i64 ((((x1).length : Nat) : Int)))), (23, .v (.int .i64 (x21))), (45, .v (.slice a38 (((atI x1 x21)).length) (k38))), (46, .v (.int .i64 (((((atI x1 x21)).length : Nat) : Int)))), (47, .v (.int .i64 (x59)))] ∧ M' = [.row (.slice ((some ⟨b7, 0, none⟩)) (64) (64)) cs17 50 1, .row (.slice a19 ((x20).length) (k19)) cs19 31 4] ∧ RowRep (cInt .i64) V' x18 cs17 ∧ RowRep cTSpan V' x20 cs19 ∧ SlAt (cSl (cInt .i64)) V' a2 k2 x1 ∧ SlAt (cInt .i64) V' a4 k4 x3 ∧ SlAt (cInt .i64) V' a38 k38 ((atI x1 x21)) ∧ F_timeline_Limited_L2 x1 x21 x20 J42 n60 x58 x59 = some r) ⟨((((((atI x1 x21)).length : Nat) : Int)).toNat + 1), [(0, .v (.slice a2 ((x1).length) (k2))), (1, .v (.slice a4 ((x3).length) (k4))), (2, .v (.int .i64 (x5))), (8, .v (.pointer (some ⟨b7, 0, none⟩))), (9, .v (.slice a19 ((x20).length) (k19))), (10, .v (.int .i64 (x21))), (11, .v (.int .i64 (x28))), (13, .v (.int .i64 ((atI x18 x28)))), (22, .v (.int .i64 ((((x1).length : Nat) : Int)))), (23, .v (.int .i64 (x21))), (45, .v (.slice a38 (((atI x1 x21)).length) (k38))), (46, .v (.int .i64 (((((atI x1 x21)).length : Nat) : Int)))), (47, .v (.int .i64 ((0 : Int))))], ⟨rfl, rfl, rfl, rfl, rfl, rfl, rfl, rfl, rfl, rfl, rfl, rfl, rfl, trivial⟩, (atI x18 x28), (0 : Int), rfl, rfl, h26, h27, h31, h32, h38, hF⟩ ?_
            rintro n60 L' V61 M' ⟨x58, x59, rfl, rfl, h56, h57, h62, h63, h64, hF⟩
            rcases n60 with _ | n60
            · exact absurd hF (by simp [F_timeline_Limited_L2])
            rw [F_timeline_Limited_L2] at hF
            refine Exec.run tyOk 400 rfl ?_
            rcases cond_some hF with ⟨hb, hF⟩ | ⟨hb, hF⟩
            · skip
              refine Exec.ifT rfl hb ?_
              refine Exec.run tyOk 400 rfl ?_
              obtain ⟨q65, hF⟩ := req_some hF
              obtain ⟨c66, hr66, hd66⟩ := SlAt.get h64 q65
              obtain rfl := hr66
              refine Exec.ia tyOk rfl rfl ⟨q65.1, q65.2, hd66.some⟩ ?_
              refine Exec.run tyOk 400 rfl ?_
              refine Exec.ld tyOk (x := .int .i64 ((atI ((atI x1 x21)) x59))) rfl rfl hd66 rfl rfl ?_
              refine Exec.run tyOk 400 rfl ?_
              obtain ⟨q67, hF⟩ := req_some hF
              refine Exec.rowI 1 rfl (fun ra68 rb68 rc68 => ?_)
              obtain ⟨c69, hr69, hd69⟩ := RowRep.get h57 q67
              obtain rfl := hr69
              have rd68 : 0 ≤ (atI ((atI x1 x21)) x59) ∧ (atI ((atI x1 x21)) x59) < (((x20).length : Nat) : Int) := q67
              have rs68 := rb68 (by omega)
              refine Exec.ia tyOk rfl rfl ⟨rd68.1, rd68.2, rs68⟩ ?_
              refine Exec.run tyOk 400 rfl ?_
              refine Exec.ldR tyOk 1 (x := .int .i64 ((atI x20 ((atI ((atI x1 x21)) x59))).End)) rfl rfl rfl ⟨(CellsAt.part hd69 3 1 rfl), rs68⟩ rfl rfl ?_
              refine Exec.run tyOk 400 rfl ?_
              exact Exec.round [(0, .v (.slice a2 ((x1).length) (k2))), (1, .v (.slice a4 ((x3).length) (k4))), (2, .v (.int .i64 (x5))), (8, .v (.pointer (some ⟨b7, 0, none⟩))), (9, .v (.slice a19 ((x20).length) (k19))), (10, .v (.int .i64 (x21))), (11, .v (.int .i64 (x28))), (13, .v (.int .i64 ((max x58 (atI x20 ((atI ((atI x1 x21)) x59))).End)))), (22, .v (.int .i64 ((((x1).length : Nat) : Int)))), (23, .v (.int .i64 (x21))), (45, .v (.slice a38 (((atI x1 x21)).length) (k38))), (46, .v (.int .i64 (((((atI x1 x21)).length : Nat) : Int)))), (47, .v (.int .i64 ((IntKind.i64.wrap (x59 + (1 : Int))))))] ⟨rfl, rfl, rfl, rfl, rfl, rfl, rfl, rfl, rfl, rfl, rfl, rfl, rfl, trivial⟩ ⟨n60, Nat.lt_succ_self _, (max x58 (atI x20 ((atI ((atI x1 x21)) x59))).End), (IntKind.i64.wrap (x59 + (1 : Int))), rfl, rfl, h56, h57, h62, h63, h64, hF⟩
            · skip
              refine Exec.ifF rfl hb ?_
              refine Exec.run tyOk 400 rfl ?_
              exact Exec.round [(0, .v (.slice a2 ((x1).length) (k2))), (1, .v (.slice a4 ((x3).length) (k4))), (2, .v (.int .i64 (x5))), (8, .v (.pointer (some ⟨b7, 0, none⟩))), (9, .v (.slice a19 ((x20).length) (k19))), (10, .v (.int .i64 (x21))), (11, .v (.int .i64 (x28))), (13, .v (.int .i64 (x58))), (22, .v (.int .i64 ((((x1).length : Nat) : Int)))), (23, .v (.int .i64 (x21)))] ⟨rfl, rfl, rfl, rfl, rfl, rfl, rfl, rfl, rfl, rfl, trivial⟩ ⟨x58, rfl, rfl, h56, h57, h62, h63, hF⟩
        · skip
          refine Exec.run tyOk 400 rfl ?_
          refine Exec.loop (fun n74 L' V' M' => ∃ (x72 : Int) (x73 : Int), L' = [(0, .v (.slice a2 ((x1).length) (k2))), (1, .v (.slice a4 ((x3).length) (k4))), (2, .v (.int .i64 (x5))), (8, .v (.pointer (some ⟨b7, 0, none⟩))), (9, .v (.slice a19 ((x20).length) (k19))), (10, .v (.int .i64 (x21))), (11, .v (.int .i64 (x72))), (22, .v (.int .i64 ((((x1).length : Nat) : Int)))), (23, .v (.int .i64 (x21))), (26, .v (.int .i64 (x5))), (27, .v (.int .i64 (x73)))] ∧ M' = [.row (.slice ((some ⟨b7, 0, none⟩)) (64) (64)) cs17 50 1, .row (.slice a19 ((x20).length) (k19)) cs19 31 4] ∧ RowRep (cInt .i64) V' x18 cs17 ∧ RowRep cTSpan V' x20 cs19 ∧ SlAt (cSl (cInt .i64)) V' a2 k2 x1 ∧ SlAt (cInt .i64) V' a4 k4 x3 ∧ F_timeline_Limited_L3 x5 x18 J29 n74 x72 x73 = some r) ⟨((x5).toNat + 1), [(0, .v (.slice a2 ((x1).length) (k2))), (1, .v (.slice a4 ((x3).length) (k4))), (2, .v (.int .i64 (x5))), (8, .v (.pointer (some ⟨b7, 0, none⟩))), (9, .v (.slice a19 ((x20).length) (k19))), (10, .v (.int .i64 (x21))), (11, .v (.int .i64 ((0 : Int)))), (22, .v (.int .i64 ((((x1).length : Nat) : Int)))), (23, .v (.int .i64 (x21))), (26, .v (.int .i64 (x5))), (27, .v (.int .i64 ((0 : Int))))], ⟨rfl, rfl, rfl, rfl, rfl, rfl, rfl, rfl, rfl, rfl, rfl, trivial⟩, (0 : Int), (0 : Int), rfl, rfl, h17, h19, h24, h25, hF⟩ ?_
          rintro n74 L' V75 M' ⟨x72, x73, rfl, rfl, h70, h71, h76, h77, hF⟩
          rcases n74 with _ | n74
          · exact absurd hF (by simp [F_timeline_Limited_L3])
          rw [F_timeline_Limited_L3] at hF
          refine Exec.run tyOk 400 rfl ?_
          rcases cond_some hF with ⟨hb, hF⟩ | ⟨hb, hF⟩
          · skip
            refine Exec.ifT rfl hb ?_
            refine Exec.run tyOk 400 rfl ?_
            refine Exec.draws tyOk [(0, true), (1, true), (2, true), (3, true), (4, true), (5, true), (6, true)] rfl (by kernel_rfl) ?_
            refine Exec.run tyOk 400 rfl ?_
            obtain ⟨q78, hF⟩ := req_some hF
            refine Exec.rowI 0 rfl (fun ra79 rb79 rc79 => ?_)
            obtain ⟨c80, hr80, hd80⟩ := h70.get q78
            obtain rfl := hr80
            have rl79 := RowRep.len h70
            refine Exec.fiaA tyOk rfl rfl rfl (ixA q78 rl79 ra79 (cInt .i64).pos) ?_
            refine Exec.run tyOk 400 rfl ?_
            refine Exec.fldR tyOk 0 (x := .int .i64 ((atI x18 x73))) rfl rfl rfl rfl ⟨hd80, ⟨_, _, rfl⟩⟩ rfl rfl ?_
            refine Exec.run tyOk 400 rfl ?_
            obtain ⟨q81, hF⟩ := req_some hF
            refine Exec.rowI 0 rfl (fun ra82 rb82 rc82 => ?_)
            obtain ⟨c83, hr83, hd83⟩ := h70.get q81
            obtain rfl := hr83
            have rl82 := RowRep.len h70
            refine Exec.fiaA tyOk rfl rfl rfl (ixA q81 rl82 ra82 (cInt .i64).pos) ?_
            refine Exec.run tyOk 400 rfl ?_
            refine Exec.fldR tyOk 0 (x := .int .i64 ((atI x18 x72))) rfl rfl rfl rfl ⟨hd83, ⟨_, _, rfl⟩⟩ rfl rfl ?_
            refine Exec.run tyOk 400 rfl ?_
            obtain ⟨J87, hJ87, hF⟩ := jn_some hF
            refine Exec.seam (fun L' V' M' => ∃ (x86 : Int), L' = [(0, .v (.slice a2 ((x1).length) (k2))), (1, .v (.slice a4 ((x3).length) (k4))), (2, .v (.int .i64 (x5))), (8, .v (.pointer (some ⟨b7, 0, none⟩))), (9, .v (.slice a19 ((x20).length) (k19))), (10, .v (.int .i64 (x21))), (11, .v (.int .i64 (x86))), (22, .v (.int .i64 ((((x1).length : Nat) : Int)))), (23, .v (.int .i64 (x21))), (26, .v (.int .i64 (x5))), (27, .v (.int .i64 (x73)))] ∧ M' = [.row (.slice ((some ⟨b7, 0, none⟩)) (64) (64)) cs17 50 1, .row (.slice a19 ((x20).length) (k19)) cs19 31 4] ∧ RowRep (cInt .i64) V' x18 cs17 ∧ RowRep cTSpan V' x20 cs19 ∧ SlAt (cSl (cInt .i64)) V' a2 k2 x1 ∧ SlAt (cInt .i64) V' a4 k4 x3 ∧ J87 x86 = some r) rfl ?_ ?_
            · rintro L' V88 M' ⟨x86, rfl, rfl, h84, h85, h89, h90, hF⟩
              subst hJ87
              refine Exec.run tyOk 400 rfl ?_
              exact Exec.round [(0, .v (.slice a2 ((x1).length) (k2))), (1, .v (.slice a4 ((x3).length) (k4))), (2, .v (.int .i64 (x5))), (8, .v (.pointer (some ⟨b7, 0, none⟩))), (9, .v (.slice a19 ((x20).length) (k19))), (10, .v (.int .i64 (x21))), (11, .v (.int .i64 (x86))), (22, .v (.int .i64 ((((x1).length : Nat) : Int)))), (23, .v (.int .i64 (x21))), (26, .v (.int .i64 (x5))), (27, .v (.int .i64 ((IntKind.i64.wrap (x73 + (1 : Int))))))] ⟨rfl, rfl, rfl, rfl, rfl, rfl, rfl, rfl, rfl, rfl, rfl, trivial⟩ ⟨n74, Nat.lt_succ_self _, x86, (IntKind.i64.wrap (x73 + (1 : Int))), rfl, rfl, h84, h85, h89, h90, hF⟩
            · skip
              refine Exec.run tyOk 400 rfl ?_
              rcases cond_some hF with ⟨hb, hF⟩ | ⟨hb, hF⟩
              · skip
                refine Exec.ifT rfl hb ?_
                refine Exec.run tyOk 400 rfl ?_
                exact Exec.round [(0, .v (.slice a2 ((x1).length) (k2))), (1, .v (.slice a4 ((x3).length) (k4))), (2, .v (.int .i64 (x5))), (8, .v (.pointer (some ⟨b7, 0, none⟩))), (9, .v (.slice a19 ((x20).length) (k19))), (10, .v (.int .i64 (x21))), (11, .v (.int .i64 (x73))), (22, .v (.int .i64 ((((x1).length : Nat) : Int)))), (23, .v (.int .i64 (x21))), (26, .v (.int .i64 (x5))), (27, .v (.int .i64 (x73)))] ⟨rfl, rfl, rfl, rfl, rfl, rfl, rfl, rfl, rfl, rfl, rfl, trivial⟩ ⟨x73, rfl, rfl, h70, h71, h76, h77, hF⟩
              · skip
                refine Exec.ifF rfl hb ?_
                refine Exec.run tyOk 400 rfl ?_
                exact Exec.round [(0, .v (.slice a2 ((x1).length) (k2))), (1, .v (.slice a4 ((x3).length) (k4))), (2, .v (.int .i64 (x5))), (8, .v (.pointer (some ⟨b7, 0, none⟩))), (9, .v (.slice a19 ((x20).length) (k19))), (10, .v (.int .i64 (x21))), (11, .v (.int .i64 (x72))), (22, .v (.int .i64 ((((x1).length : Nat) : Int)))), (23, .v (.int .i64 (x21))), (26, .v (.int .i64 (x5))), (27, .v (.int .i64 (x73)))] ⟨rfl, rfl, rfl, rfl, rfl, rfl, rfl, rfl, rfl, rfl, rfl, trivial⟩ ⟨x72, rfl, rfl, h70, h71, h76, h77, hF⟩
          · skip
            refine Exec.ifF rfl hb ?_
            refine Exec.run tyOk 400 rfl ?_
            exact Exec.round [(0, .v (.slice a2 ((x1).length) (k2))), (1, .v (.slice a4 ((x3).length) (k4))), (2, .v (.int .i64 (x5))), (8, .v (.pointer (some ⟨b7, 0, none⟩))), (9, .v (.slice a19 ((x20).length) (k19))), (10, .v (.int .i64 (x21))), (11, .v (.int .i64 (x72))), (22, .v (.int .i64 ((((x1).length : Nat) : Int)))), (23, .v (.int .i64 (x21)))] ⟨rfl, rfl, rfl, rfl, rfl, rfl, rfl, rfl, rfl, trivial⟩ ⟨x72, rfl, rfl, h70, h71, h76, h77, hF⟩
      · skip
        refine Exec.ifF rfl hb ?_
        refine Exec.run tyOk 400 rfl ?_
        exact Exec.round [(9, .v (.slice a19 ((x20).length) (k19)))] ⟨rfl, trivial⟩ ⟨x18, cs17, x20, a19, k19, cs19, rfl, rfl, h17, h19, hF⟩

def F_timeline_Check_L2 (x6 : List TSpan) (x25 : Int) (J33 : Option Int) : Nat → Int → Option Int
  | 0, _ => none
  | n37 + 1, x36 => (cond (decide (x36 < (((((x6.take (x25).toNat).drop ((0 : Int)).toNat)).length : Nat) : Int))) (req (0 ≤ x36 ∧ x36 < ((((x6.take (x25).toNat).drop ((0 : Int)).toNat)).length : Int)) (cond ((((atI x6 x25).Worker == (atI (((x6.take (x25).toNat).drop ((0 : Int)).toNat)) x36).Worker) && (decide ((atI x6 x25).Start < (atI (((x6.take (x25).toNat).drop ((0 : Int)).toNat)) x36).End))) && (decide ((atI (((x6.take (x25).toNat).drop ((0 : Int)).toNat)) x36).Start < (atI x6 x25).End))) (some (2 : Int)) (F_timeline_Check_L2 x6 x25 J33 n37 ((IntKind.i64.wrap (x36 + (1 : Int))))))) J33)

def F_timeline_Check_L1 (x6 : List TSpan) (J23 : Option Int) : Nat → Int → Option Int
  | 0, _ => none
  | n26 + 1, x25 => (cond (decide (x25 < (((x6).length : Nat) : Int))) (req (0 ≤ x25 ∧ x25 < ((x6).length : Int)) (req (0 ≤ (0 : Int) ∧ (0 : Int) ≤ x25 ∧ x25 ≤ ((x6).length : Int)) (jn ((F_timeline_Check_L1 x6 J23 n26 ((IntKind.i64.wrap (x25 + (1 : Int)))))) (fun J33 => (F_timeline_Check_L2 x6 x25 J33 (((((((x6.take (x25).toNat).drop ((0 : Int)).toNat)).length : Nat) : Int)).toNat + 1) ((0 : Int))))))) J23)

def F_timeline_Check_L4 (x1 : List (List Int)) (x43 : Int) (x9 : List Int × Bool) (x6 : List TSpan) (J52 : Option Int) : Nat → Int → Option Int
  | 0, _ => none
  | n58 + 1, x57 => (cond (decide (x57 < ((((atI x1 x43)).length : Nat) : Int))) (req (0 ≤ x57 ∧ x57 < (((atI x1 x43)).length : Int)) (req (0 ≤ x43 ∧ x43 < ((x9.1).length : Int)) (req (0 ≤ (atI x9.1 x43) ∧ (atI x9.1 x43) < ((x6).length : Int)) (req (0 ≤ (atI ((atI x1 x43)) x57) ∧ (atI ((atI x1 x43)) x57) < ((x9.1).length : Int)) (req (0 ≤ (atI x9.1 ((atI ((atI x1 x43)) x57))) ∧ (atI x9.1 ((atI ((atI x1 x43)) x57))) < ((x6).length : Int)) (cond (decide ((atI x6 ((atI x9.1 x43))).Start < (atI x6 ((atI x9.1 ((atI ((atI x1 x43)) x57))))).End)) (some (16 : Int)) (F_timeline_Check_L4 x1 x43 x9 x6 J52 n58 ((IntKind.i64.wrap (x57 + (1 : Int))))))))))) J52)

def F_timeline_Check_L3 (x1 : List (List Int)) (x9 : List Int × Bool) (x6 : List TSpan) (J20 : Option Int) : Nat → Int → Option Int
  | 0, _ => none
  | n44 + 1, x43 => (cond (decide (x43 < (((x1).length : Nat) : Int))) (req (0 ≤ x43 ∧ x43 < ((x1).length : Int)) (jn ((F_timeline_Check_L3 x1 x9 x6 J20 n44 ((IntKind.i64.wrap (x43 + (1 : Int)))))) (fun J52 => (F_timeline_Check_L4 x1 x43 x9 x6 J52 ((((((atI x1 x43)).length : Nat) : Int)).toNat + 1) ((0 : Int)))))) J20)

def F_timeline_Check_L5 (x6 : List TSpan) (x3 : List Int) (x5 : Int) (J15 : Option Int) : Nat → Int → Option Int
  | 0, _ => none
  | n75 + 1, x74 => (cond (decide (x74 < (((x6).length : Nat) : Int))) (req (0 ≤ x74 ∧ x74 < ((x6).length : Int)) (req (0 ≤ (atI x6 x74).Txn ∧ (atI x6 x74).Txn < ((x3).length : Int)) (bnd (F_timeline_fits ((atI x6 x74)) ((atI x3 ((atI x6 x74).Txn))) x5) fun x85 => (cond (!x85) (some (1 : Int)) (F_timeline_Check_L5 x6 x3 x5 J15 n75 ((IntKind.i64.wrap (x74 + (1 : Int))))))))) J15)

def F_timeline_Check (x1 : List (List Int)) (x3 : List Int) (x5 : Int) (x6 : List TSpan) : Option Int :=
  (bnd (F_timeline_valid x1 x3 x5) fun x8 => (cond (!x8) (some (1 : Int)) (bnd (F_timeline_places ((((x1).length : Nat) : Int)) x6) fun x9 => (cond (!x9.2) (some (9 : Int)) (jn ((jn ((jn ((some (0 : Int))) (fun J23 => (F_timeline_Check_L1 x6 J23 (((((x6).length : Nat) : Int)).toNat + 1) ((0 : Int)))))) (fun J20 => (F_timeline_Check_L3 x1 x9 x6 J20 (((((x1).length : Nat) : Int)).toNat + 1) ((0 : Int)))))) (fun J15 => (F_timeline_Check_L5 x6 x3 x5 J15 (((((x6).length : Nat) : Int)).toNat + 1) ((0 : Int)))))))))

set_option maxRecDepth 100000 in
theorem W_timeline_Check {V : View} (x1 : List (List Int)) (x3 : List Int) (x5 : Int) (x6 : List TSpan) {a2 : Option Addr} {k2 : Nat} {a4 : Option Addr} {k4 : Nat} {a7 : Option Addr} {k7 : Nat} (h2 : SlAt (cSl (cInt .i64)) V a2 k2 x1) (h4 : SlAt (cInt .i64) V a4 k4 x3) (h7 : SlAt cTSpan V a7 k7 x6) {r : Int} (hF : F_timeline_Check x1 x3 x5 x6 = some r) :
    Spec Try.prog 22 [.slice a2 ((x1).length) (k2), .slice a4 ((x3).length) (k4), .int .i64 (x5), .slice a7 ((x6).length) (k7)] V (fun _ v => v = .int .i64 (r)) := by
  unfold F_timeline_Check at hF
  refine Spec.enter (T := tyT) Try.func22 rfl (by kernel_rfl) rfl rfl rfl ?_
  refine Exec.run tyOk 400 rfl ?_
  obtain ⟨x8, hx8, hF⟩ := bnd_some hF
  refine Exec.callS (.bool (x8)) rfl rfl (W_timeline_valid x1 x3 x5 h2 h4 hx8) ?_
  refine Exec.run tyOk 400 rfl ?_
  rcases cond_some hF with ⟨hb, hF⟩ | ⟨hb, hF⟩
  · skip
    refine Exec.ifT rfl hb ?_
    refine Exec.run tyOk 400 rfl ?_
    obtain rfl := some_inj hF
    exact Exec.ret tyOk rfl rfl rfl
  · skip
    refine Exec.ifF rfl hb ?_
    refine Exec.run tyOk 400 rfl ?_
    obtain ⟨x9, hx9, hF⟩ := bnd_some hF
    refine Exec.call rfl rfl (W_timeline_places ((((x1).length : Nat) : Int)) x6 h7 hx9) ?_
    rintro V11 _ hv11 ⟨a10, k10, rfl, h10⟩
    have h12 := SlAt.mono h2 hv11
    have h13 := SlAt.mono h4 hv11
    have h14 := SlAt.mono h7 hv11
    refine Exec.run tyOk 400 rfl ?_
    rcases cond_some hF with ⟨hb, hF⟩ | ⟨hb, hF⟩
    · skip
      refine Exec.ifT rfl hb ?_
      refine Exec.run tyOk 400 rfl ?_
      obtain rfl := some_inj hF
      exact Exec.ret tyOk rfl rfl rfl
    · skip
      refine Exec.ifF rfl hb ?_
      refine Exec.run tyOk 8 rfl ?_
      obtain ⟨J15, hJ15, hF⟩ := jn_some hF
      refine Exec.seam (fun L' V' M' => L' = [(0, .v (.slice a2 ((x1).length) (k2))), (3, .v (.slice a7 ((x6).length) (k7))), (9, .v (.slice a10 ((x9.1).length) (k10)))] ∧ M' = [] ∧ SlAt (cSl (cInt .i64)) V' a2 k2 x1 ∧ SlAt cTSpan V' a7 k7 x6 ∧ SlAt (cInt .i64) V' a10 k10 x9.1 ∧ J15 = some r) rfl ?_ ?_
      · rintro L' V16 M' ⟨rfl, rfl, h17, h18, h19, hF⟩
        subst hJ15
        refine Exec.run tyOk 7 rfl ?_
        obtain ⟨J20, hJ20, hF⟩ := jn_some hF
        refine Exec.seam (fun L' V' M' => L' = [(3, .v (.slice a7 ((x6).length) (k7)))] ∧ M' = [] ∧ SlAt cTSpan V' a7 k7 x6 ∧ J20 = some r) rfl ?_ ?_
        · rintro L' V21 M' ⟨rfl, rfl, h22, hF⟩
          subst hJ20
          refine Exec.run tyOk 7 rfl ?_
          obtain ⟨J23, hJ23, hF⟩ := jn_some hF
          refine Exec.seam (fun L' V' M' => L' = [] ∧ M' = [] ∧ J23 = some r) rfl ?_ ?_
          · rintro L' V24 M' ⟨rfl, rfl, hF⟩
            subst hJ23
            refine Exec.run tyOk 400 rfl ?_
            obtain rfl := some_inj hF
            exact Exec.ret tyOk rfl rfl rfl
          · skip
            refine Exec.run tyOk 400 rfl ?_
            refine Exec.loop (fun n26 L' V' M' => ∃ (x25 : Int), L' = [(3, .v (.slice a7 ((x6).length) (k7))), (83, .v (.slice a7 ((x6).length) (k7))), (84, .v (.int .i64 ((((x6).length : Nat) : Int)))), (85, .v (.int .i64 (x25)))] ∧ M' = [] ∧ SlAt cTSpan V' a7 k7 x6 ∧ F_timeline_Check_L1 x6 J23 n26 x25 = some r) ⟨(((((x6).length : Nat) : Int)).toNat + 1), [(3, .v (.slice a7 ((x6).length) (k7))), (83, .v (.slice a7 ((x6).length) (k7))), (84, .v (.int .i64 ((((x6).length : Nat) : Int)))), (85, .v (.int .i64 ((0 : Int))))], ⟨rfl, rfl, rfl, rfl, trivial⟩, (0 : Int), rfl, rfl, h22, hF⟩ ?_
            rintro n26 L' V27 M' ⟨x25, rfl, rfl, h28, hF⟩
            rcases n26 with _ | n26
            · exact absurd hF (by simp [F_timeline_Check_L1])
            rw [F_timeline_Check_L1] at hF
            refine Exec.run tyOk 400 rfl ?_
            rcases cond_some hF with ⟨hb, hF⟩ | ⟨hb, hF⟩
            · skip
              refine Exec.ifT rfl hb ?_
              refine Exec.run tyOk 400 rfl ?_
              obtain ⟨q29, hF⟩ := req_some hF
              obtain ⟨c30, hr30, hd30⟩ := SlAt.get h28 q29
              obtain rfl := hr30
              refine Exec.ia tyOk rfl rfl ⟨q29.1, q29.2, hd30.some⟩ ?_
              refine Exec.run tyOk 400 rfl ?_
              refine Exec.ld tyOk (x := .agg ⟨[.int .i64 ((atI x6 x25).Txn), .int .i64 ((atI x6 x25).Worker), .int .i64 ((atI x6 x25).Start), .int .i64 ((atI x6 x25).End)]⟩) rfl rfl hd30 rfl rfl ?_
              refine Exec.run tyOk 400 rfl ?_
              obtain ⟨q31, hF⟩ := req_some hF
              refine Exec.slv tyOk (c := cTSpan) rfl rfl (lo := (0 : Int)) (hi := x25) rfl rfl h28 (by simp) rfl q31 (fun a32 k32 h32 => ?_)
              refine Exec.run tyOk 3 rfl ?_
              obtain ⟨J33, hJ33, hF⟩ := jn_some hF
              refine Exec.seam (fun L' V' M' => L' = [(3, .v (.slice a7 ((x6).length) (k7))), (83, .v (.slice a7 ((x6).length) (k7))), (84, .v (.int .i64 ((((x6).length : Nat) : Int)))), (85, .v (.int .i64 (x25)))] ∧ M' = [] ∧ SlAt cTSpan V' a7 k7 x6 ∧ J33 = some r) rfl ?_ ?_
              · rintro L' V34 M' ⟨rfl, rfl, h35, hF⟩
                subst hJ33
                refine Exec.run tyOk 400 rfl ?_
                exact Exec.round [(3, .v (.slice a7 ((x6).length) (k7))), (83, .v (.slice a7 ((x6).length) (k7))), (84, .v (.int .i64 ((((x6).length : Nat) : Int)))), (85, .v (.int .i64 ((IntKind.i64.wrap (x25 + (1 : Int))))))] ⟨rfl, rfl, rfl, rfl, trivial⟩ ⟨n26, Nat.lt_succ_self _, (IntKind.i64.wrap (x25 + (1 : Int))), rfl, rfl, h35, hF⟩
              · skip
                refine Exec.run tyOk 400 rfl ?_
                refine Exec.loop (fun n37 L' V' M' => ∃ (x36 : Int), L' = [(3, .v (.slice a7 ((x6).length) (k7))), (17, .ptr 0 0), (83, .v (.slice a7 ((x6).length) (k7))), (84, .v (.int .i64 ((((x6).length : Nat) : Int)))), (85, .v (.int .i64 (x25))), (92, .v (.slice a32 ((((x6.take (x25).toNat).drop ((0 : Int)).toNat)).length) (k32))), (93, .v (.int .i64 ((((((x6.take (x25).toNat).drop ((0 : Int)).toNat)).length : Nat) : Int)))), (94, .v (.int .i64 (x36)))] ∧ M' = [.blk [.v (.int .i64 ((atI x6 x25).Txn)), .v (.int .i64 ((atI x6 x25).Worker)), .v (.int .i64 ((atI x6 x25).Start)), .v (.int .i64 ((atI x6 x25).End))] 31] ∧ SlAt cTSpan V' a7 k7 x6 ∧ SlAt cTSpan V' a32 k32 (((x6.take (x25).toNat).drop ((0 : Int)).toNat)) ∧ F_timeline_Check_L2 x6 x25 J33 n37 x36 = some r) ⟨(((((((x6.take (x25).toNat).drop ((0 : Int)).toNat)).length : Nat) : Int)).toNat + 1), [(3, .v (.slice a7 ((x6).length) (k7))), (17, .ptr 0 0), (83, .v (.slice a7 ((x6).length) (k7))), (84, .v (.int .i64 ((((x6).length : Nat) : Int)))), (85, .v (.int .i64 (x25))), (92, .v (.slice a32 ((((x6.take (x25).toNat).drop ((0 : Int)).toNat)).length) (k32))), (93, .v (.int .i64 ((((((x6.take (x25).toNat).drop ((0 : Int)).toNat)).length : Nat) : Int)))), (94, .v (.int .i64 ((0 : Int))))], ⟨rfl, rfl, rfl, rfl, rfl, rfl, rfl, rfl, trivial⟩, (0 : Int), rfl, rfl, h28, h32, hF⟩ ?_
                rintro n37 L' V38 M' ⟨x36, rfl, rfl, h39, h40, hF⟩
                rcases n37 with _ | n37
                · exact absurd hF (by simp [F_timeline_Check_L2])
                rw [F_timeline_Check_L2] at hF
                refine Exec.run tyOk 400 rfl ?_
                rcases cond_some hF with ⟨hb, hF⟩ | ⟨hb, hF⟩
                · skip
                  refine Exec.ifT rfl hb ?_
                  refine Exec.run tyOk 400 rfl ?_
                  obtain ⟨q41, hF⟩ := req_some hF
                  obtain ⟨c42, hr42, hd42⟩ := SlAt.get h40 q41
                  obtain rfl := hr42
                  refine Exec.ia tyOk rfl rfl ⟨q41.1, q41.2, hd42.some⟩ ?_
                  refine Exec.run tyOk 400 rfl ?_
                  refine Exec.ld tyOk (x := .agg ⟨[.int .i64 ((atI (((x6.take (x25).toNat).drop ((0 : Int)).toNat)) x36).Txn), .int .i64 ((atI (((x6.take (x25).toNat).drop ((0 : Int)).toNat)) x36).Worker), .int .i64 ((atI (((x6.take (x25).toNat).drop ((0 : Int)).toNat)) x36).Start), .int .i64 ((atI (((x6.take (x25).toNat).drop ((0 : Int)).toNat)) x36).End)]⟩) rfl rfl hd42 rfl rfl ?_
                  refine Exec.run tyOk 400 rfl ?_
                  rcases cond_some hF with ⟨hb, hF⟩ | ⟨hb, hF⟩
                  · skip
                    refine Exec.ifT rfl hb ?_
                    refine Exec.run tyOk 400 rfl ?_
                    obtain rfl := some_inj hF
                    exact Exec.ret tyOk rfl rfl rfl
                  · skip
                    refine Exec.ifF rfl hb ?_
                    refine Exec.run tyOk 400 rfl ?_
                    refine Exec.cut 1 [(3, .v (.slice a7 ((x6).length) (k7))), (17, .ptr 0 0), (83, .v (.slice a7 ((x6).length) (k7))), (84, .v (.int .i64 ((((x6).length : Nat) : Int)))), (85, .v (.int .i64 (x25))), (92, .v (.slice a32 ((((x6.take (x25).toNat).drop ((0 : Int)).toNat)).length) (k32))), (93, .v (.int .i64 ((((((x6.take (x25).toNat).drop ((0 : Int)).toNat)).length : Nat) : Int)))), (94, .v (.int .i64 ((IntKind.i64.wrap (x36 + (1 : Int))))))] (M' := [.blk [.v (.int .i64 ((atI x6 x25).Txn)), .v (.int .i64 ((atI x6 x25).Worker)), .v (.int .i64 ((atI x6 x25).Start)), .v (.int .i64 ((atI x6 x25).End))] 31]) rfl ⟨rfl, rfl, rfl, rfl, rfl, rfl, rfl, rfl, trivial⟩ rfl rfl rfl ?_
                    exact Exec.round [(3, .v (.slice a7 ((x6).length) (k7))), (17, .ptr 0 0), (83, .v (.slice a7 ((x6).length) (k7))), (84, .v (.int .i64 ((((x6).length : Nat) : Int)))), (85, .v (.int .i64 (x25))), (92, .v (.slice a32 ((((x6.take (x25).toNat).drop ((0 : Int)).toNat)).length) (k32))), (93, .v (.int .i64 ((((((x6.take (x25).toNat).drop ((0 : Int)).toNat)).length : Nat) : Int)))), (94, .v (.int .i64 ((IntKind.i64.wrap (x36 + (1 : Int))))))] ⟨rfl, rfl, rfl, rfl, rfl, rfl, rfl, rfl, trivial⟩ ⟨n37, Nat.lt_succ_self _, (IntKind.i64.wrap (x36 + (1 : Int))), rfl, rfl, h39, h40, hF⟩
                · skip
                  refine Exec.ifF rfl hb ?_
                  refine Exec.run tyOk 400 rfl ?_
                  refine Exec.cut 0 [(3, .v (.slice a7 ((x6).length) (k7))), (83, .v (.slice a7 ((x6).length) (k7))), (84, .v (.int .i64 ((((x6).length : Nat) : Int)))), (85, .v (.int .i64 (x25)))] (M' := []) rfl ⟨rfl, rfl, rfl, rfl, trivial⟩ rfl rfl rfl ?_
                  exact Exec.round [(3, .v (.slice a7 ((x6).length) (k7))), (83, .v (.slice a7 ((x6).length) (k7))), (84, .v (.int .i64 ((((x6).length : Nat) : Int)))), (85, .v (.int .i64 (x25)))] ⟨rfl, rfl, rfl, rfl, trivial⟩ ⟨rfl, rfl, h39, hF⟩
            · skip
              refine Exec.ifF rfl hb ?_
              refine Exec.run tyOk 400 rfl ?_
              exact Exec.round [] trivial ⟨rfl, rfl, hF⟩
        · skip
          refine Exec.run tyOk 400 rfl ?_
          refine Exec.loop (fun n44 L' V' M' => ∃ (x43 : Int), L' = [(0, .v (.slice a2 ((x1).length) (k2))), (3, .v (.slice a7 ((x6).length) (k7))), (9, .v (.slice a10 ((x9.1).length) (k10))), (51, .v (.int .i64 ((((x1).length : Nat) : Int)))), (52, .v (.int .i64 (x43)))] ∧ M' = [] ∧ SlAt (cSl (cInt .i64)) V' a2 k2 x1 ∧ SlAt cTSpan V' a7 k7 x6 ∧ SlAt (cInt .i64) V' a10 k10 x9.1 ∧ F_timeline_Check_L3 x1 x9 x6 J20 n44 x43 = some r) ⟨(((((x1).length : Nat) : Int)).toNat + 1), [(0, .v (.slice a2 ((x1).length) (k2))), (3, .v (.slice a7 ((x6).length) (k7))), (9, .v (.slice a10 ((x9.1).length) (k10))), (51, .v (.int .i64 ((((x1).length : Nat) : Int)))), (52, .v (.int .i64 ((0 : Int))))], ⟨rfl, rfl, rfl, rfl, rfl, trivial⟩, (0 : Int), rfl, rfl, h17, h18, h19, hF⟩ ?_
          rintro n44 L' V45 M' ⟨x43, rfl, rfl, h46, h47, h48, hF⟩
          rcases n44 with _ | n44
          · exact absurd hF (by simp [F_timeline_Check_L3])
          rw [F_timeline_Check_L3] at hF
          refine Exec.run tyOk 400 rfl ?_
          rcases cond_some hF with ⟨hb, hF⟩ | ⟨hb, hF⟩
          · skip
            refine Exec.ifT rfl hb ?_
            refine Exec.run tyOk 400 rfl ?_
            obtain ⟨q49, hF⟩ := req_some hF
            obtain ⟨c50, hr50, hd50⟩ := SlAt.get h46 q49
            obtain ⟨a51, k51, rfl, h51⟩ := hr50
            refine Exec.ia tyOk rfl rfl ⟨q49.1, q49.2, hd50.some⟩ ?_
            refine Exec.run tyOk 400 rfl ?_
            refine Exec.ld tyOk (x := .slice a51 (((atI x1 x43)).length) (k51)) rfl rfl hd50 rfl rfl ?_
            refine Exec.run tyOk 3 rfl ?_
            obtain ⟨J52, hJ52, hF⟩ := jn_some hF
            refine Exec.seam (fun L' V' M' => L' = [(0, .v (.slice a2 ((x1).length) (k2))), (3, .v (.slice a7 ((x6).length) (k7))), (9, .v (.slice a10 ((x9.1).length) (k10))), (51, .v (.int .i64 ((((x1).length : Nat) : Int)))), (52, .v (.int .i64 (x43)))] ∧ M' = [] ∧ SlAt (cSl (cInt .i64)) V' a2 k2 x1 ∧ SlAt cTSpan V' a7 k7 x6 ∧ SlAt (cInt .i64) V' a10 k10 x9.1 ∧ J52 = some r) rfl ?_ ?_
            · rintro L' V53 M' ⟨rfl, rfl, h54, h55, h56, hF⟩
              subst hJ52
              refine Exec.run tyOk 400 rfl ?_
              exact Exec.round [(0, .v (.slice a2 ((x1).length) (k2))), (3, .v (.slice a7 ((x6).length) (k7))), (9, .v (.slice a10 ((x9.1).length) (k10))), (51, .v (.int .i64 ((((x1).length : Nat) : Int)))), (52, .v (.int .i64 ((IntKind.i64.wrap (x43 + (1 : Int))))))] ⟨rfl, rfl, rfl, rfl, rfl, trivial⟩ ⟨n44, Nat.lt_succ_self _, (IntKind.i64.wrap (x43 + (1 : Int))), rfl, rfl, h54, h55, h56, hF⟩
            · skip
              refine Exec.run tyOk 400 rfl ?_
              refine Exec.loop (fun n58 L' V' M' => ∃ (x57 : Int), L' = [(0, .v (.slice a2 ((x1).length) (k2))), (3, .v (.slice a7 ((x6).length) (k7))), (9, .v (.slice a10 ((x9.1).length) (k10))), (13, .v (.int .i64 (x43))), (51, .v (.int .i64 ((((x1).length : Nat) : Int)))), (52, .v (.int .i64 (x43))), (58, .v (.slice a51 (((atI x1 x43)).length) (k51))), (59, .v (.int .i64 (((((atI x1 x43)).length : Nat) : Int)))), (60, .v (.int .i64 (x57)))] ∧ M' = [] ∧ SlAt (cSl (cInt .i64)) V' a2 k2 x1 ∧ SlAt cTSpan V' a7 k7 x6 ∧ SlAt (cInt .i64) V' a10 k10 x9.1 ∧ SlAt (cInt .i64) V' a51 k51 ((atI x1 x43)) ∧ F_timeline_Check_L4 x1 x43 x9 x6 J52 n58 x57 = some r) ⟨((((((atI x1 x43)).length : Nat) : Int)).toNat + 1), [(0, .v (.slice a2 ((x1).length) (k2))), (3, .v (.slice a7 ((x6).length) (k7))), (9, .v (.slice a10 ((x9.1).length) (k10))), (13, .v (.int .i64 (x43))), (51, .v (.int .i64 ((((x1).length : Nat) : Int)))), (52, .v (.int .i64 (x43))), (58, .v (.slice a51 (((atI x1 x43)).length) (k51))), (59, .v (.int .i64 (((((atI x1 x43)).length : Nat) : Int)))), (60, .v (.int .i64 ((0 : Int))))], ⟨rfl, rfl, rfl, rfl, rfl, rfl, rfl, rfl, rfl, trivial⟩, (0 : Int), rfl, rfl, h46, h47, h48, h51, hF⟩ ?_
              rintro n58 L' V59 M' ⟨x57, rfl, rfl, h60, h61, h62, h63, hF⟩
              rcases n58 with _ | n58
              · exact absurd hF (by simp [F_timeline_Check_L4])
              rw [F_timeline_Check_L4] at hF
              refine Exec.run tyOk 400 rfl ?_
              rcases cond_some hF with ⟨hb, hF⟩ | ⟨hb, hF⟩
              · skip
                refine Exec.ifT rfl hb ?_
                refine Exec.run tyOk 400 rfl ?_
                obtain ⟨q64, hF⟩ := req_some hF
                obtain ⟨c65, hr65, hd65⟩ := SlAt.get h63 q64
                obtain rfl := hr65
                refine Exec.ia tyOk rfl rfl ⟨q64.1, q64.2, hd65.some⟩ ?_
                refine Exec.run tyOk 400 rfl ?_
                refine Exec.ld tyOk (x := .int .i64 ((atI ((atI x1 x43)) x57))) rfl rfl hd65 rfl rfl ?_
                refine Exec.run tyOk 400 rfl ?_
                refine Exec.draws tyOk [(0, true), (1, true), (2, true), (3, true), (4, true), (5, true), (6, true), (7, true), (8, true), (9, true), (10, true), (11, true), (12, true), (13, true), (14, true), (15, true), (16, true)] rfl (by kernel_rfl) ?_
                refine Exec.run tyOk 400 rfl ?_
                obtain ⟨q66, hF⟩ := req_some hF
                obtain ⟨c67, hr67, hd67⟩ := SlAt.get h62 q66
                obtain rfl := hr67
                refine Exec.fia tyOk rfl rfl rfl ⟨q66.1, q66.2, hd67.some⟩ ?_
                refine Exec.run tyOk 400 rfl ?_
                refine Exec.fld tyOk (x := .int .i64 ((atI x9.1 x43))) rfl rfl rfl hd67 rfl rfl ?_
                refine Exec.run tyOk 400 rfl ?_
                obtain ⟨q68, hF⟩ := req_some hF
                obtain ⟨c69, hr69, hd69⟩ := SlAt.get h61 q68
                obtain rfl := hr69
                refine Exec.fia tyOk rfl rfl rfl ⟨q68.1, q68.2, hd69.some⟩ ?_
                refine Exec.run tyOk 400 rfl ?_
                refine Exec.fld tyOk (x := .int .i64 ((atI x6 ((atI x9.1 x43))).Start)) rfl rfl rfl (RdAt.part hd69 2 1 rfl) rfl rfl ?_
                refine Exec.run tyOk 400 rfl ?_
                obtain ⟨q70, hF⟩ := req_some hF
                obtain ⟨c71, hr71, hd71⟩ := SlAt.get h62 q70
                obtain rfl := hr71
                refine Exec.fia tyOk rfl rfl rfl ⟨q70.1, q70.2, hd71.some⟩ ?_
                refine Exec.run tyOk 400 rfl ?_
                refine Exec.fld tyOk (x := .int .i64 ((atI x9.1 ((atI ((atI x1 x43)) x57))))) rfl rfl rfl hd71 rfl rfl ?_
                refine Exec.run tyOk 400 rfl ?_
                obtain ⟨q72, hF⟩ := req_some hF
                obtain ⟨c73, hr73, hd73⟩ := SlAt.get h61 q72
                obtain rfl := hr73
                refine Exec.fia tyOk rfl rfl rfl ⟨q72.1, q72.2, hd73.some⟩ ?_
                refine Exec.run tyOk 400 rfl ?_
                refine Exec.fld tyOk (x := .int .i64 ((atI x6 ((atI x9.1 ((atI ((atI x1 x43)) x57))))).End)) rfl rfl rfl (RdAt.part hd73 3 1 rfl) rfl rfl ?_
                refine Exec.run tyOk 400 rfl ?_
                rcases cond_some hF with ⟨hb, hF⟩ | ⟨hb, hF⟩
                · skip
                  refine Exec.ifT rfl hb ?_
                  refine Exec.run tyOk 400 rfl ?_
                  obtain rfl := some_inj hF
                  exact Exec.ret tyOk rfl rfl rfl
                · skip
                  refine Exec.ifF rfl hb ?_
                  refine Exec.run tyOk 400 rfl ?_
                  exact Exec.round [(0, .v (.slice a2 ((x1).length) (k2))), (3, .v (.slice a7 ((x6).length) (k7))), (9, .v (.slice a10 ((x9.1).length) (k10))), (13, .v (.int .i64 (x43))), (51, .v (.int .i64 ((((x1).length : Nat) : Int)))), (52, .v (.int .i64 (x43))), (58, .v (.slice a51 (((atI x1 x43)).length) (k51))), (59, .v (.int .i64 (((((atI x1 x43)).length : Nat) : Int)))), (60, .v (.int .i64 ((IntKind.i64.wrap (x57 + (1 : Int))))))] ⟨rfl, rfl, rfl, rfl, rfl, rfl, rfl, rfl, rfl, trivial⟩ ⟨n58, Nat.lt_succ_self _, (IntKind.i64.wrap (x57 + (1 : Int))), rfl, rfl, h60, h61, h62, h63, hF⟩
              · skip
                refine Exec.ifF rfl hb ?_
                refine Exec.run tyOk 400 rfl ?_
                exact Exec.round [(0, .v (.slice a2 ((x1).length) (k2))), (3, .v (.slice a7 ((x6).length) (k7))), (9, .v (.slice a10 ((x9.1).length) (k10))), (51, .v (.int .i64 ((((x1).length : Nat) : Int)))), (52, .v (.int .i64 (x43)))] ⟨rfl, rfl, rfl, rfl, rfl, trivial⟩ ⟨rfl, rfl, h60, h61, h62, hF⟩
          · skip
            refine Exec.ifF rfl hb ?_
            refine Exec.run tyOk 400 rfl ?_
            exact Exec.round [(3, .v (.slice a7 ((x6).length) (k7)))] ⟨rfl, trivial⟩ ⟨rfl, rfl, h47, hF⟩
      · skip
        refine Exec.run tyOk 400 rfl ?_
        refine Exec.loop (fun n75 L' V' M' => ∃ (x74 : Int), L' = [(0, .v (.slice a2 ((x1).length) (k2))), (1, .v (.slice a4 ((x3).length) (k4))), (2, .v (.int .i64 (x5))), (3, .v (.slice a7 ((x6).length) (k7))), (9, .v (.slice a10 ((x9.1).length) (k10))), (34, .v (.slice a7 ((x6).length) (k7))), (35, .v (.int .i64 ((((x6).length : Nat) : Int)))), (36, .v (.int .i64 (x74)))] ∧ M' = [] ∧ SlAt (cSl (cInt .i64)) V' a2 k2 x1 ∧ SlAt (cInt .i64) V' a4 k4 x3 ∧ SlAt cTSpan V' a7 k7 x6 ∧ SlAt (cInt .i64) V' a10 k10 x9.1 ∧ F_timeline_Check_L5 x6 x3 x5 J15 n75 x74 = some r) ⟨(((((x6).length : Nat) : Int)).toNat + 1), [(0, .v (.slice a2 ((x1).length) (k2))), (1, .v (.slice a4 ((x3).length) (k4))), (2, .v (.int .i64 (x5))), (3, .v (.slice a7 ((x6).length) (k7))), (9, .v (.slice a10 ((x9.1).length) (k10))), (34, .v (.slice a7 ((x6).length) (k7))), (35, .v (.int .i64 ((((x6).length : Nat) : Int)))), (36, .v (.int .i64 ((0 : Int))))], ⟨rfl, rfl, rfl, rfl, rfl, rfl, rfl, rfl, trivial⟩, (0 : Int), rfl, rfl, h12, h13, h14, h10, hF⟩ ?_
        rintro n75 L' V76 M' ⟨x74, rfl, rfl, h77, h78, h79, h80, hF⟩
        rcases n75 with _ | n75
        · exact absurd hF (by simp [F_timeline_Check_L5])
        rw [F_timeline_Check_L5] at hF
        refine Exec.run tyOk 400 rfl ?_
        rcases cond_some hF with ⟨hb, hF⟩ | ⟨hb, hF⟩
        · skip
          refine Exec.ifT rfl hb ?_
          refine Exec.run tyOk 400 rfl ?_
          obtain ⟨q81, hF⟩ := req_some hF
          obtain ⟨c82, hr82, hd82⟩ := SlAt.get h79 q81
          obtain rfl := hr82
          refine Exec.ia tyOk rfl rfl ⟨q81.1, q81.2, hd82.some⟩ ?_
          refine Exec.run tyOk 400 rfl ?_
          refine Exec.ld tyOk (x := .agg ⟨[.int .i64 ((atI x6 x74).Txn), .int .i64 ((atI x6 x74).Worker), .int .i64 ((atI x6 x74).Start), .int .i64 ((atI x6 x74).End)]⟩) rfl rfl hd82 rfl rfl ?_
          refine Exec.run tyOk 400 rfl ?_
          refine Exec.draws tyOk [(0, true), (1, true), (2, true), (3, true), (4, true), (5, true), (6, true), (7, false), (8, true)] rfl (by kernel_rfl) ?_
          refine Exec.run tyOk 400 rfl ?_
          obtain ⟨q83, hF⟩ := req_some hF
          obtain ⟨c84, hr84, hd84⟩ := SlAt.get h78 q83
          obtain rfl := hr84
          refine Exec.fia tyOk rfl rfl rfl ⟨q83.1, q83.2, hd84.some⟩ ?_
          refine Exec.run tyOk 400 rfl ?_
          refine Exec.fld tyOk (x := .int .i64 ((atI x3 ((atI x6 x74).Txn)))) rfl rfl rfl hd84 rfl rfl ?_
          refine Exec.run tyOk 400 rfl ?_
          obtain ⟨x85, hx85, hF⟩ := bnd_some hF
          refine Exec.callS (.bool (x85)) rfl rfl (W_timeline_fits ((atI x6 x74)) ((atI x3 ((atI x6 x74).Txn))) x5  hx85) ?_
          refine Exec.run tyOk 400 rfl ?_
          rcases cond_some hF with ⟨hb, hF⟩ | ⟨hb, hF⟩
          · skip
            refine Exec.ifT rfl hb ?_
            refine Exec.run tyOk 400 rfl ?_
            obtain rfl := some_inj hF
            exact Exec.ret tyOk rfl rfl rfl
          · skip
            refine Exec.ifF rfl hb ?_
            refine Exec.run tyOk 400 rfl ?_
            refine Exec.cut 0 [(0, .v (.slice a2 ((x1).length) (k2))), (1, .v (.slice a4 ((x3).length) (k4))), (2, .v (.int .i64 (x5))), (3, .v (.slice a7 ((x6).length) (k7))), (9, .v (.slice a10 ((x9.1).length) (k10))), (34, .v (.slice a7 ((x6).length) (k7))), (35, .v (.int .i64 ((((x6).length : Nat) : Int)))), (36, .v (.int .i64 ((IntKind.i64.wrap (x74 + (1 : Int))))))] (M' := []) rfl ⟨rfl, rfl, rfl, rfl, rfl, rfl, rfl, rfl, trivial⟩ rfl rfl rfl ?_
            exact Exec.round [(0, .v (.slice a2 ((x1).length) (k2))), (1, .v (.slice a4 ((x3).length) (k4))), (2, .v (.int .i64 (x5))), (3, .v (.slice a7 ((x6).length) (k7))), (9, .v (.slice a10 ((x9.1).length) (k10))), (34, .v (.slice a7 ((x6).length) (k7))), (35, .v (.int .i64 ((((x6).length : Nat) : Int)))), (36, .v (.int .i64 ((IntKind.i64.wrap (x74 + (1 : Int))))))] ⟨rfl, rfl, rfl, rfl, rfl, rfl, rfl, rfl, trivial⟩ ⟨n75, Nat.lt_succ_self _, (IntKind.i64.wrap (x74 + (1 : Int))), rfl, rfl, h77, h78, h79, h80, hF⟩
        · skip
          refine Exec.ifF rfl hb ?_
          refine Exec.run tyOk 400 rfl ?_
          exact Exec.round [(0, .v (.slice a2 ((x1).length) (k2))), (3, .v (.slice a7 ((x6).length) (k7))), (9, .v (.slice a10 ((x9.1).length) (k10)))] ⟨rfl, rfl, rfl, trivial⟩ ⟨rfl, rfl, h77, h79, h80, hF⟩

def F_clockworkref28_Valid_L2 (x11 : Int) (x1 : List (List Int)) (J16 : Option Bool) : Nat → Int → Option Bool
  | 0, _ => none
  | n21 + 1, x20 => (req (0 ≤ x11 ∧ x11 < ((x1).length : Int)) (cond (decide (x20 < ((((atI x1 x11)).length : Nat) : Int))) (req (0 ≤ x11 ∧ x11 < ((x1).length : Int)) (req (0 ≤ x20 ∧ x20 < (((atI x1 x11)).length : Int)) (req ((((decide ((atI ((atI x1 x11)) x20) < (0 : Int)))) == false) = true → 0 ≤ x11 ∧ x11 < ((x1).length : Int)) (req ((((decide ((atI ((atI x1 x11)) x20) < (0 : Int)))) == false) = true → 0 ≤ x20 ∧ x20 < (((cond (((decide ((atI ((atI x1 x11)) x20) < (0 : Int)))) == false) (atI x1 x11) default)).length : Int)) (cond ((decide ((atI ((atI x1 x11)) x20) < (0 : Int))) || (decide (x11 ≤ (cond (((decide ((atI ((atI x1 x11)) x20) < (0 : Int)))) == false) (atI ((cond (((decide ((atI ((atI x1 x11)) x20) < (0 : Int)))) == false) (atI x1 x11) default)) x20) default)))) (some false) (F_clockworkref28_Valid_L2 x11 x1 J16 n21 ((IntKind.i64.wrap (x20 + (1 : Int)))))))))) J16))

def F_clockworkref28_Valid_L1 (x1 : List (List Int)) (J6 : Option Bool) : Nat → Int → Option Bool
  | 0, _ => none
  | n12 + 1, x11 => (cond (decide (x11 < (((x1).length : Nat) : Int))) (jn ((F_clockworkref28_Valid_L1 x1 J6 n12 ((IntKind.i64.wrap (x11 + (1 : Int)))))) (fun J16 => (F_clockworkref28_Valid_L2 x11 x1 J16 (1000000 : Nat) ((0 : Int))))) J6)

def F_clockworkref28_Valid (x1 : List (List Int)) (x3 : List Int) (x5 : Int) : Option Bool :=
  (jn ((bnd (F_clockworkref28_costs x3 ((((x1).length : Nat) : Int))) fun x10 => (some ((x10 && (decide ((1 : Int) ≤ x5))) && (decide (x5 ≤ (64 : Int))))))) (fun J6 => (F_clockworkref28_Valid_L1 x1 J6 (((((x1).length : Nat) : Int)).toNat + 1) ((0 : Int)))))

set_option maxRecDepth 100000 in
theorem W_clockworkref28_Valid {V : View} (x1 : List (List Int)) (x3 : List Int) (x5 : Int) {a2 : Option Addr} {k2 : Nat} {a4 : Option Addr} {k4 : Nat} (h2 : SlAt (cSl (cInt .i64)) V a2 k2 x1) (h4 : SlAt (cInt .i64) V a4 k4 x3) {r : Bool} (hF : F_clockworkref28_Valid x1 x3 x5 = some r) :
    Spec Try.prog 24 [.slice a2 ((x1).length) (k2), .slice a4 ((x3).length) (k4), .int .i64 (x5)] V (fun _ v => v = .bool (r)) := by
  unfold F_clockworkref28_Valid at hF
  refine Spec.enter (T := tyT) Try.func24 rfl (by kernel_rfl) rfl rfl rfl ?_
  refine Exec.run tyOk 9 rfl ?_
  obtain ⟨J6, hJ6, hF⟩ := jn_some hF
  refine Exec.seam (fun L' V' M' => L' = [(0, .v (.slice a2 ((x1).length) (k2))), (1, .v (.slice a4 ((x3).length) (k4))), (2, .v (.int .i64 (x5)))] ∧ M' = [] ∧ SlAt (cSl (cInt .i64)) V' a2 k2 x1 ∧ SlAt (cInt .i64) V' a4 k4 x3 ∧ J6 = some r) rfl ?_ ?_
  · rintro L' V7 M' ⟨rfl, rfl, h8, h9, hF⟩
    subst hJ6
    refine Exec.run tyOk 400 rfl ?_
    obtain ⟨x10, hx10, hF⟩ := bnd_some hF
    refine Exec.callS (.bool (x10)) rfl rfl (W_clockworkref28_costs x3 ((((x1).length : Nat) : Int)) h9 hx10) ?_
    refine Exec.run tyOk 400 rfl ?_
    obtain rfl := some_inj hF
    exact Exec.ret tyOk rfl rfl rfl
  · skip
    refine Exec.run tyOk 400 rfl ?_
    refine Exec.loop (fun n12 L' V' M' => ∃ (x11 : Int), L' = [(0, .v (.slice a2 ((x1).length) (k2))), (1, .v (.slice a4 ((x3).length) (k4))), (2, .v (.int .i64 (x5))), (7, .v (.int .i64 (x11)))] ∧ M' = [] ∧ SlAt (cSl (cInt .i64)) V' a2 k2 x1 ∧ SlAt (cInt .i64) V' a4 k4 x3 ∧ F_clockworkref28_Valid_L1 x1 J6 n12 x11 = some r) ⟨(((((x1).length : Nat) : Int)).toNat + 1), [(0, .v (.slice a2 ((x1).length) (k2))), (1, .v (.slice a4 ((x3).length) (k4))), (2, .v (.int .i64 (x5))), (7, .v (.int .i64 ((0 : Int))))], ⟨rfl, rfl, rfl, rfl, trivial⟩, (0 : Int), rfl, rfl, h2, h4, hF⟩ ?_
    rintro n12 L' V13 M' ⟨x11, rfl, rfl, h14, h15, hF⟩
    rcases n12 with _ | n12
    · exact absurd hF (by simp [F_clockworkref28_Valid_L1])
    rw [F_clockworkref28_Valid_L1] at hF
    refine Exec.run tyOk 400 rfl ?_
    rcases cond_some hF with ⟨hb, hF⟩ | ⟨hb, hF⟩
    · skip
      refine Exec.ifT rfl hb ?_
      refine Exec.run tyOk 7 rfl ?_
      obtain ⟨J16, hJ16, hF⟩ := jn_some hF
      refine Exec.seam (fun L' V' M' => L' = [(0, .v (.slice a2 ((x1).length) (k2))), (1, .v (.slice a4 ((x3).length) (k4))), (2, .v (.int .i64 (x5))), (7, .v (.int .i64 (x11)))] ∧ M' = [] ∧ SlAt (cSl (cInt .i64)) V' a2 k2 x1 ∧ SlAt (cInt .i64) V' a4 k4 x3 ∧ J16 = some r) rfl ?_ ?_
      · rintro L' V17 M' ⟨rfl, rfl, h18, h19, hF⟩
        subst hJ16
        refine Exec.run tyOk 400 rfl ?_
        exact Exec.round [(0, .v (.slice a2 ((x1).length) (k2))), (1, .v (.slice a4 ((x3).length) (k4))), (2, .v (.int .i64 (x5))), (7, .v (.int .i64 ((IntKind.i64.wrap (x11 + (1 : Int))))))] ⟨rfl, rfl, rfl, rfl, trivial⟩ ⟨n12, Nat.lt_succ_self _, (IntKind.i64.wrap (x11 + (1 : Int))), rfl, rfl, h18, h19, hF⟩
      · skip
        refine Exec.run tyOk 400 rfl ?_
        refine Exec.loop (fun n21 L' V' M' => ∃ (x20 : Int), L' = [(0, .v (.slice a2 ((x1).length) (k2))), (1, .v (.slice a4 ((x3).length) (k4))), (2, .v (.int .i64 (x5))), (7, .v (.int .i64 (x11))), (8, .v (.int .i64 (x20)))] ∧ M' = [] ∧ SlAt (cSl (cInt .i64)) V' a2 k2 x1 ∧ SlAt (cInt .i64) V' a4 k4 x3 ∧ F_clockworkref28_Valid_L2 x11 x1 J16 n21 x20 = some r) ⟨(1000000 : Nat), [(0, .v (.slice a2 ((x1).length) (k2))), (1, .v (.slice a4 ((x3).length) (k4))), (2, .v (.int .i64 (x5))), (7, .v (.int .i64 (x11))), (8, .v (.int .i64 ((0 : Int))))], ⟨rfl, rfl, rfl, rfl, rfl, trivial⟩, (0 : Int), rfl, rfl, h14, h15, hF⟩ ?_
        rintro n21 L' V22 M' ⟨x20, rfl, rfl, h23, h24, hF⟩
        rcases n21 with _ | n21
        · exact absurd hF (by simp [F_clockworkref28_Valid_L2])
        rw [F_clockworkref28_Valid_L2] at hF
        refine Exec.run tyOk 400 rfl ?_
        obtain ⟨q25, hF⟩ := req_some hF
        obtain ⟨c26, hr26, hd26⟩ := SlAt.get h23 q25
        obtain ⟨a27, k27, rfl, h27⟩ := hr26
        refine Exec.ia tyOk rfl rfl ⟨q25.1, q25.2, hd26.some⟩ ?_
        refine Exec.run tyOk 400 rfl ?_
        refine Exec.ld tyOk (x := .slice a27 (((atI x1 x11)).length) (k27)) rfl rfl hd26 rfl rfl ?_
        refine Exec.run tyOk 400 rfl ?_
        rcases cond_some hF with ⟨hb, hF⟩ | ⟨hb, hF⟩
        · skip
          refine Exec.ifT rfl hb ?_
          refine Exec.run tyOk 400 rfl ?_
          obtain ⟨q28, hF⟩ := req_some hF
          obtain ⟨c29, hr29, hd29⟩ := SlAt.get h23 q28
          obtain ⟨a30, k30, rfl, h30⟩ := hr29
          refine Exec.ia tyOk rfl rfl ⟨q28.1, q28.2, hd29.some⟩ ?_
          refine Exec.run tyOk 400 rfl ?_
          refine Exec.ld tyOk (x := .slice a30 (((atI x1 x11)).length) (k30)) rfl rfl hd29 rfl rfl ?_
          refine Exec.run tyOk 400 rfl ?_
          obtain ⟨q31, hF⟩ := req_some hF
          obtain ⟨c32, hr32, hd32⟩ := SlAt.get h30 q31
          obtain rfl := hr32
          refine Exec.ia tyOk rfl rfl ⟨q31.1, q31.2, hd32.some⟩ ?_
          refine Exec.run tyOk 400 rfl ?_
          refine Exec.ld tyOk (x := .int .i64 ((atI ((atI x1 x11)) x20))) rfl rfl hd32 rfl rfl ?_
          refine Exec.run tyOk 400 rfl ?_
          obtain ⟨q33, hF⟩ := req_some hF
          obtain ⟨c34, hr34, hd34⟩ := SlAt.gget (((decide ((atI ((atI x1 x11)) x20) < (0 : Int)))) == false) h23 q33
          obtain ⟨a35, k35, rfl, h35⟩ := hr34
          refine Exec.ia tyOk rfl rfl (fun gg0 => ⟨(q33 (gd1_of gg0)).1, (q33 (gd1_of gg0)).2, (hd34 (gd1_of gg0)).some⟩) ?_
          refine Exec.run tyOk 400 rfl ?_
          refine Exec.ld tyOk (x := .slice a35 (((cond (((decide ((atI ((atI x1 x11)) x20) < (0 : Int)))) == false) (atI x1 x11) default)).length) (k35)) rfl rfl (fun gg0 => (hd34 (gd1_of gg0))) rfl rfl ?_
          refine Exec.run tyOk 400 rfl ?_
          obtain ⟨q36, hF⟩ := req_some hF
          obtain ⟨c37, hr37, hd37⟩ := SlAt.gget (((decide ((atI ((atI x1 x11)) x20) < (0 : Int)))) == false) h35 q36
          obtain rfl := hr37
          refine Exec.ia tyOk rfl rfl (fun gg0 => ⟨(q36 (gd1_of gg0)).1, (q36 (gd1_of gg0)).2, (hd37 (gd1_of gg0)).some⟩) ?_
          refine Exec.run tyOk 400 rfl ?_
          refine Exec.ld tyOk (x := .int .i64 ((cond (((decide ((atI ((atI x1 x11)) x20) < (0 : Int)))) == false) (atI ((cond (((decide ((atI ((atI x1 x11)) x20) < (0 : Int)))) == false) (atI x1 x11) default)) x20) default))) rfl rfl (fun gg0 => (hd37 (gd1_of gg0))) rfl rfl ?_
          refine Exec.run tyOk 400 rfl ?_
          rcases cond_some hF with ⟨hb, hF⟩ | ⟨hb, hF⟩
          · skip
            refine Exec.ifT rfl hb ?_
            refine Exec.run tyOk 400 rfl ?_
            obtain rfl := some_inj hF
            exact Exec.ret tyOk rfl rfl rfl
          · skip
            refine Exec.ifF rfl hb ?_
            refine Exec.run tyOk 400 rfl ?_
            exact Exec.round [(0, .v (.slice a2 ((x1).length) (k2))), (1, .v (.slice a4 ((x3).length) (k4))), (2, .v (.int .i64 (x5))), (7, .v (.int .i64 (x11))), (8, .v (.int .i64 ((IntKind.i64.wrap (x20 + (1 : Int))))))] ⟨rfl, rfl, rfl, rfl, rfl, trivial⟩ ⟨n21, Nat.lt_succ_self _, (IntKind.i64.wrap (x20 + (1 : Int))), rfl, rfl, h23, h24, hF⟩
        · skip
          refine Exec.ifF rfl hb ?_
          refine Exec.run tyOk 400 rfl ?_
          exact Exec.round [(0, .v (.slice a2 ((x1).length) (k2))), (1, .v (.slice a4 ((x3).length) (k4))), (2, .v (.int .i64 (x5))), (7, .v (.int .i64 (x11)))] ⟨rfl, rfl, rfl, rfl, trivial⟩ ⟨rfl, rfl, h23, h24, hF⟩
    · skip
      refine Exec.ifF rfl hb ?_
      refine Exec.run tyOk 400 rfl ?_
      exact Exec.round [(0, .v (.slice a2 ((x1).length) (k2))), (1, .v (.slice a4 ((x3).length) (k4))), (2, .v (.int .i64 (x5)))] ⟨rfl, rfl, rfl, trivial⟩ ⟨rfl, rfl, h14, h15, hF⟩

def F_slices_ContainsFunc_string_string (x1 : List Str) (g4 : Str → Option Bool) : Option Bool :=
  (bnd (F_slices_IndexFunc_string_string x1 g4) fun x5 => (some (decide ((0 : Int) ≤ x5))))

set_option maxRecDepth 100000 in
theorem W_slices_ContainsFunc_string_string {V : View} (x1 : List Str) (g4 : Str → Option Bool) {f4 : Nat} {ca4 : List Value} {a2 : Option Addr} {k2 : Nat} (h2 : SlAt cStr V a2 k2 x1) (hg4 : FnSpec1 Try.prog f4 ca4 V (fun (y : Str) => .string ⟨⟨y⟩⟩) (fun (r : Bool) => .bool (r)) g4) {r : Bool} (hF : F_slices_ContainsFunc_string_string x1 g4 = some r) :
    Spec Try.prog 43 [.slice a2 ((x1).length) (k2), .func (.func f4) #[] ⟨ca4⟩] V (fun _ v => v = .bool (r)) := by
  unfold F_slices_ContainsFunc_string_string at hF
  refine Spec.enter (T := tyT) Try.func43 rfl (by kernel_rfl) rfl rfl rfl ?_
  refine Exec.run tyOk 400 rfl ?_
  obtain ⟨x5, hx5, hF⟩ := bnd_some hF
  refine Exec.callS (.int .i64 (x5)) rfl rfl (W_slices_IndexFunc_string_string x1 g4 h2 hg4 hx5) ?_
  refine Exec.run tyOk 400 rfl ?_
  obtain rfl := some_inj hF
  exact Exec.ret tyOk rfl rfl rfl

def F_slices_Contains_string_string (x1 : List Str) (x3 : Str) : Option Bool :=
  (bnd (F_slices_Index_string_string x1 x3) fun x4 => (some (decide ((0 : Int) ≤ x4))))

set_option maxRecDepth 100000 in
theorem W_slices_Contains_string_string {V : View} (x1 : List Str) (x3 : Str) {a2 : Option Addr} {k2 : Nat} (h2 : SlAt cStr V a2 k2 x1) {r : Bool} (hF : F_slices_Contains_string_string x1 x3 = some r) :
    Spec Try.prog 45 [.slice a2 ((x1).length) (k2), .string ⟨⟨x3⟩⟩] V (fun _ v => v = .bool (r)) := by
  unfold F_slices_Contains_string_string at hF
  refine Spec.enter (T := tyT) Try.func45 rfl (by kernel_rfl) rfl rfl rfl ?_
  refine Exec.run tyOk 400 rfl ?_
  obtain ⟨x4, hx4, hF⟩ := bnd_some hF
  refine Exec.callS (.int .i64 (x4)) rfl rfl (W_slices_Index_string_string x1 x3 h2 hx4) ?_
  refine Exec.run tyOk 400 rfl ?_
  obtain rfl := some_inj hF
  exact Exec.ret tyOk rfl rfl rfl

def F_clockworkref19_meet_L1 (x1 : List Str) (x3 : List Str) (J5 : Option Bool) : Nat → Int → Option Bool
  | 0, _ => none
  | n8 + 1, x7 => (cond (decide (x7 < (((x1).length : Nat) : Int))) (req (0 ≤ x7 ∧ x7 < ((x1).length : Int)) (bnd (F_clockworkref04_Has x3 ((atI x1 x7))) fun x14 => (cond x14 (some true) (F_clockworkref19_meet_L1 x1 x3 J5 n8 ((IntKind.i64.wrap (x7 + (1 : Int)))))))) J5)

def F_clockworkref19_meet (x1 : List Str) (x3 : List Str) : Option Bool :=
  (jn ((some false)) (fun J5 => (F_clockworkref19_meet_L1 x1 x3 J5 (((((x1).length : Nat) : Int)).toNat + 1) ((0 : Int)))))

set_option maxRecDepth 100000 in
theorem W_clockworkref19_meet {V : View} (x1 : List Str) (x3 : List Str) {a2 : Option Addr} {k2 : Nat} {a4 : Option Addr} {k4 : Nat} (h2 : SlAt cStr V a2 k2 x1) (h4 : SlAt cStr V a4 k4 x3) {r : Bool} (hF : F_clockworkref19_meet x1 x3 = some r) :
    Spec Try.prog 49 [.slice a2 ((x1).length) (k2), .slice a4 ((x3).length) (k4)] V (fun _ v => v = .bool (r)) := by
  unfold F_clockworkref19_meet at hF
  refine Spec.enter (T := tyT) Try.func49 rfl (by kernel_rfl) rfl rfl rfl ?_
  refine Exec.run tyOk 9 rfl ?_
  obtain ⟨J5, hJ5, hF⟩ := jn_some hF
  refine Exec.seam (fun L' V' M' => L' = [] ∧ M' = [] ∧ J5 = some r) rfl ?_ ?_
  · rintro L' V6 M' ⟨rfl, rfl, hF⟩
    subst hJ5
    refine Exec.run tyOk 400 rfl ?_
    obtain rfl := some_inj hF
    exact Exec.ret tyOk rfl rfl rfl
  · skip
    refine Exec.run tyOk 400 rfl ?_
    refine Exec.loop (fun n8 L' V' M' => ∃ (x7 : Int), L' = [(0, .v (.slice a2 ((x1).length) (k2))), (1, .v (.slice a4 ((x3).length) (k4))), (5, .v (.int .i64 (x7)))] ∧ M' = [] ∧ SlAt cStr V' a2 k2 x1 ∧ SlAt cStr V' a4 k4 x3 ∧ F_clockworkref19_meet_L1 x1 x3 J5 n8 x7 = some r) ⟨(((((x1).length : Nat) : Int)).toNat + 1), [(0, .v (.slice a2 ((x1).length) (k2))), (1, .v (.slice a4 ((x3).length) (k4))), (5, .v (.int .i64 ((0 : Int))))], ⟨rfl, rfl, rfl, trivial⟩, (0 : Int), rfl, rfl, h2, h4, hF⟩ ?_
    rintro n8 L' V9 M' ⟨x7, rfl, rfl, h10, h11, hF⟩
    rcases n8 with _ | n8
    · exact absurd hF (by simp [F_clockworkref19_meet_L1])
    rw [F_clockworkref19_meet_L1] at hF
    refine Exec.run tyOk 400 rfl ?_
    rcases cond_some hF with ⟨hb, hF⟩ | ⟨hb, hF⟩
    · skip
      refine Exec.ifT rfl hb ?_
      refine Exec.run tyOk 400 rfl ?_
      obtain ⟨q12, hF⟩ := req_some hF
      obtain ⟨c13, hr13, hd13⟩ := SlAt.get h10 q12
      obtain rfl := hr13
      refine Exec.ia tyOk rfl rfl ⟨q12.1, q12.2, hd13.some⟩ ?_
      refine Exec.run tyOk 400 rfl ?_
      refine Exec.ld tyOk (x := .string ⟨⟨(atI x1 x7)⟩⟩) rfl rfl hd13 rfl rfl ?_
      refine Exec.run tyOk 400 rfl ?_
      obtain ⟨x14, hx14, hF⟩ := bnd_some hF
      refine Exec.callS (.bool (x14)) rfl rfl (W_clockworkref04_Has x3 ((atI x1 x7)) h11 hx14) ?_
      refine Exec.run tyOk 400 rfl ?_
      rcases cond_some hF with ⟨hb, hF⟩ | ⟨hb, hF⟩
      · skip
        refine Exec.ifT rfl hb ?_
        refine Exec.run tyOk 400 rfl ?_
        obtain rfl := some_inj hF
        exact Exec.ret tyOk rfl rfl rfl
      · skip
        refine Exec.ifF rfl hb ?_
        refine Exec.run tyOk 400 rfl ?_
        exact Exec.round [(0, .v (.slice a2 ((x1).length) (k2))), (1, .v (.slice a4 ((x3).length) (k4))), (5, .v (.int .i64 ((IntKind.i64.wrap (x7 + (1 : Int))))))] ⟨rfl, rfl, rfl, trivial⟩ ⟨n8, Nat.lt_succ_self _, (IntKind.i64.wrap (x7 + (1 : Int))), rfl, rfl, h10, h11, hF⟩
    · skip
      refine Exec.ifF rfl hb ?_
      refine Exec.run tyOk 400 rfl ?_
      exact Exec.round [] trivial ⟨rfl, rfl, hF⟩

def F_keys_Valid (x1 : Str) : Option Bool :=
  (bnd (gcall (((x1 != ([] : Str))) == true) (F_keys_consists x1 (fun y0 => F_keys_Valid_1 y0 ))) fun x2 => (some ((x1 != ([] : Str)) && x2)))

set_option maxRecDepth 100000 in
theorem W_keys_Valid {V : View} (x1 : Str)   {r : Bool} (hF : F_keys_Valid x1 = some r) :
    Spec Try.prog 54 [.string ⟨⟨x1⟩⟩] V (fun _ v => v = .bool (r)) := by
  unfold F_keys_Valid at hF
  refine Spec.enter (T := tyT) Try.func54 rfl (by kernel_rfl) rfl rfl rfl ?_
  refine Exec.run tyOk 400 rfl ?_
  obtain ⟨x2, hx2, hF⟩ := bnd_some hF
  refine Exec.callS (.bool (x2)) rfl rfl (fun gg0 => W_keys_consists x1 (fun y0 => F_keys_Valid_1 y0 ) (fun V' hv y0 r hr => W_keys_Valid_1 y0   hr) (gcall_some hx2 (gd1_of gg0))) ?_
  refine Exec.run tyOk 400 rfl ?_
  obtain rfl := some_inj hF
  exact Exec.ret tyOk rfl rfl rfl

def F_cmp_Less_string (x1 : Str) (x2 : Str) : Option Bool :=
  (bnd (F_cmp_isNaN_string x1) fun x3 => (bnd (gcall ((x3) == true) (F_cmp_isNaN_string x2)) fun x4 => (some ((x3 && (!x4)) || (sLt x1 x2)))))

set_option maxRecDepth 100000 in
theorem W_cmp_Less_string {V : View} (x1 : Str) (x2 : Str)   {r : Bool} (hF : F_cmp_Less_string x1 x2 = some r) :
    Spec Try.prog 55 [.string ⟨⟨x1⟩⟩, .string ⟨⟨x2⟩⟩] V (fun _ v => v = .bool (r)) := by
  unfold F_cmp_Less_string at hF
  refine Spec.enter (T := tyT) Try.func55 rfl (by kernel_rfl) rfl rfl rfl ?_
  refine Exec.run tyOk 400 rfl ?_
  obtain ⟨x3, hx3, hF⟩ := bnd_some hF
  refine Exec.callS (.bool (x3)) rfl rfl (W_cmp_isNaN_string x1  hx3) ?_
  refine Exec.run tyOk 400 rfl ?_
  obtain ⟨x4, hx4, hF⟩ := bnd_some hF
  refine Exec.callS (.bool (x4)) rfl rfl (fun gg0 => W_cmp_isNaN_string x2  (gcall_some hx4 (gd1_of gg0))) ?_
  refine Exec.run tyOk 400 rfl ?_
  obtain rfl := some_inj hF
  exact Exec.ret tyOk rfl rfl rfl

def F_clockworkref04_Ascending_L1 (x1 : List Str) (J3 : Option Bool) : Nat → Int → Option Bool
  | 0, _ => none
  | n6 + 1, x5 => (cond (decide (x5 < (((x1).length : Nat) : Int))) (req (0 ≤ x5 ∧ x5 < ((x1).length : Int)) (bnd (F_clockworkref04_Valid ((atI x1 x5))) fun x11 => (req (((((decide ((0 : Int) < x5))) == true) && (((!x11)) == false)) = true → 0 ≤ (IntKind.i64.wrap (x5 - (1 : Int))) ∧ (IntKind.i64.wrap (x5 - (1 : Int))) < ((x1).length : Int)) (req (((((decide ((0 : Int) < x5))) == true) && (((!x11)) == false)) = true → 0 ≤ x5 ∧ x5 < ((x1).length : Int)) (cond ((!x11) || ((decide ((0 : Int) < x5)) && (!sLt (cond ((((decide ((0 : Int) < x5))) == true) && (((!x11)) == false)) (atI x1 ((IntKind.i64.wrap (x5 - (1 : Int))))) default) (cond ((((decide ((0 : Int) < x5))) == true) && (((!x11)) == false)) (atI x1 x5) default)))) (some false) (F_clockworkref04_Ascending_L1 x1 J3 n6 ((IntKind.i64.wrap (x5 + (1 : Int)))))))))) J3)

def F_clockworkref04_Ascending (x1 : List Str) : Option Bool :=
  (jn ((some true)) (fun J3 => (F_clockworkref04_Ascending_L1 x1 J3 (((((x1).length : Nat) : Int)).toNat + 1) ((0 : Int)))))

set_option maxRecDepth 100000 in
theorem W_clockworkref04_Ascending {V : View} (x1 : List Str) {a2 : Option Addr} {k2 : Nat} (h2 : SlAt cStr V a2 k2 x1) {r : Bool} (hF : F_clockworkref04_Ascending x1 = some r) :
    Spec Try.prog 57 [.slice a2 ((x1).length) (k2)] V (fun _ v => v = .bool (r)) := by
  unfold F_clockworkref04_Ascending at hF
  refine Spec.enter (T := tyT) Try.func57 rfl (by kernel_rfl) rfl rfl rfl ?_
  refine Exec.run tyOk 9 rfl ?_
  obtain ⟨J3, hJ3, hF⟩ := jn_some hF
  refine Exec.seam (fun L' V' M' => L' = [] ∧ M' = [] ∧ J3 = some r) rfl ?_ ?_
  · rintro L' V4 M' ⟨rfl, rfl, hF⟩
    subst hJ3
    refine Exec.run tyOk 400 rfl ?_
    obtain rfl := some_inj hF
    exact Exec.ret tyOk rfl rfl rfl
  · skip
    refine Exec.run tyOk 400 rfl ?_
    refine Exec.loop (fun n6 L' V' M' => ∃ (x5 : Int), L' = [(0, .v (.slice a2 ((x1).length) (k2))), (3, .v (.int .i64 (x5)))] ∧ M' = [] ∧ SlAt cStr V' a2 k2 x1 ∧ F_clockworkref04_Ascending_L1 x1 J3 n6 x5 = some r) ⟨(((((x1).length : Nat) : Int)).toNat + 1), [(0, .v (.slice a2 ((x1).length) (k2))), (3, .v (.int .i64 ((0 : Int))))], ⟨rfl, rfl, trivial⟩, (0 : Int), rfl, rfl, h2, hF⟩ ?_
    rintro n6 L' V7 M' ⟨x5, rfl, rfl, h8, hF⟩
    rcases n6 with _ | n6
    · exact absurd hF (by simp [F_clockworkref04_Ascending_L1])
    rw [F_clockworkref04_Ascending_L1] at hF
    refine Exec.run tyOk 400 rfl ?_
    rcases cond_some hF with ⟨hb, hF⟩ | ⟨hb, hF⟩
    · skip
      refine Exec.ifT rfl hb ?_
      refine Exec.run tyOk 400 rfl ?_
      refine Exec.draws tyOk [(0, true), (1, true), (2, true), (3, true), (4, false), (5, true), (6, true), (7, true), (8, true), (9, true), (10, true), (11, true), (12, true), (13, true), (14, true), (15, true), (16, true), (17, true), (18, true), (19, true), (20, true), (21, true)] rfl (by kernel_rfl) ?_
      refine Exec.run tyOk 400 rfl ?_
      obtain ⟨q9, hF⟩ := req_some hF
      obtain ⟨c10, hr10, hd10⟩ := SlAt.get h8 q9
      obtain rfl := hr10
      refine Exec.fia tyOk rfl rfl rfl ⟨q9.1, q9.2, hd10.some⟩ ?_
      refine Exec.run tyOk 400 rfl ?_
      refine Exec.fld tyOk (x := .string ⟨⟨(atI x1 x5)⟩⟩) rfl rfl rfl hd10 rfl rfl ?_
      refine Exec.run tyOk 400 rfl ?_
      obtain ⟨x11, hx11, hF⟩ := bnd_some hF
      refine Exec.callS (.bool (x11)) rfl rfl (W_clockworkref04_Valid ((atI x1 x5))  hx11) ?_
      refine Exec.run tyOk 400 rfl ?_
      obtain ⟨q12, hF⟩ := req_some hF
      obtain ⟨c13, hr13, hd13⟩ := SlAt.gget ((((decide ((0 : Int) < x5))) == true) && (((!x11)) == false)) h8 q12
      obtain rfl := hr13
      refine Exec.fia tyOk rfl rfl rfl (fun gg0 gg1 => ⟨(q12 (gd2_of gg0 gg1)).1, (q12 (gd2_of gg0 gg1)).2, (hd13 (gd2_of gg0 gg1)).some⟩) ?_
      refine Exec.run tyOk 400 rfl ?_
      refine Exec.fld tyOk (x := .string ⟨⟨(cond ((((decide ((0 : Int) < x5))) == true) && (((!x11)) == false)) (atI x1 ((IntKind.i64.wrap (x5 - (1 : Int))))) default)⟩⟩) rfl rfl rfl (fun gg0 gg1 => (hd13 (gd2_of gg0 gg1))) rfl rfl ?_
      refine Exec.run tyOk 400 rfl ?_
      obtain ⟨q14, hF⟩ := req_some hF
      obtain ⟨c15, hr15, hd15⟩ := SlAt.gget ((((decide ((0 : Int) < x5))) == true) && (((!x11)) == false)) h8 q14
      obtain rfl := hr15
      refine Exec.fia tyOk rfl rfl rfl (fun gg0 gg1 => ⟨(q14 (gd2_of gg0 gg1)).1, (q14 (gd2_of gg0 gg1)).2, (hd15 (gd2_of gg0 gg1)).some⟩) ?_
      refine Exec.run tyOk 400 rfl ?_
      refine Exec.fld tyOk (x := .string ⟨⟨(cond ((((decide ((0 : Int) < x5))) == true) && (((!x11)) == false)) (atI x1 x5) default)⟩⟩) rfl rfl rfl (fun gg0 gg1 => (hd15 (gd2_of gg0 gg1))) rfl rfl ?_
      refine Exec.run tyOk 400 rfl ?_
      rcases cond_some hF with ⟨hb, hF⟩ | ⟨hb, hF⟩
      · skip
        refine Exec.ifT rfl hb ?_
        refine Exec.run tyOk 400 rfl ?_
        obtain rfl := some_inj hF
        exact Exec.ret tyOk rfl rfl rfl
      · skip
        refine Exec.ifF rfl hb ?_
        refine Exec.run tyOk 400 rfl ?_
        exact Exec.round [(0, .v (.slice a2 ((x1).length) (k2))), (3, .v (.int .i64 ((IntKind.i64.wrap (x5 + (1 : Int))))))] ⟨rfl, rfl, trivial⟩ ⟨n6, Nat.lt_succ_self _, (IntKind.i64.wrap (x5 + (1 : Int))), rfl, rfl, h8, hF⟩
    · skip
      refine Exec.ifF rfl hb ?_
      refine Exec.run tyOk 400 rfl ?_
      exact Exec.round [] trivial ⟨rfl, rfl, hF⟩

def F_clockworkref28_Limited_L2 (x23 : Int) (x1 : List (List Int)) (x22 : List TSpan) (J41 : Int → Option (List TSpan × Int)) : Nat → Int → Int → Option (List TSpan × Int)
  | 0, _, _ => none
  | n60 + 1, x58, x59 => (req (0 ≤ x23 ∧ x23 < ((x1).length : Int)) (cond (decide (x59 < ((((atI x1 x23)).length : Nat) : Int))) (req (0 ≤ x23 ∧ x23 < ((x1).length : Int)) (req (0 ≤ x59 ∧ x59 < (((atI x1 x23)).length : Int)) (req (0 ≤ (atI ((atI x1 x23)) x59) ∧ (atI ((atI x1 x23)) x59) < ((x22).length : Int)) (F_clockworkref28_Limited_L2 x23 x1 x22 J41 n60 ((max x58 (atI x22 ((atI ((atI x1 x23)) x59))).End)) ((IntKind.i64.wrap (x59 + (1 : Int)))))))) (J41 x58)))

def F_clockworkref28_Limited_L3 (x5 : Int) (x20 : List Int) (J31 : Int → Option (List TSpan × Int)) : Nat → Int → Int → Option (List TSpan × Int)
  | 0, _, _ => none
  | n79 + 1, x77, x78 => (cond (decide (x78 < x5)) (req (0 ≤ x78 ∧ x78 < ((x20).length : Int)) (req (0 ≤ x77 ∧ x77 < ((x20).length : Int)) (jn (fun (x91 : Int) => (F_clockworkref28_Limited_L3 x5 x20 J31 n79 x91 ((IntKind.i64.wrap (x78 + (1 : Int)))))) (fun J92 => (cond (decide ((atI x20 x78) < (atI x20 x77))) (J92 x78) (J92 x77)))))) (J31 x77))

def F_clockworkref28_Limited_L1 (x1 : List (List Int)) (x3 : List Int) (x5 : Int) (J15 : (List Int) → (List TSpan) → Option (List TSpan × Int)) : Nat → (List Int) → (List TSpan) → Int → Option (List TSpan × Int)
  | 0, _, _, _ => none
  | n24 + 1, x20, x22, x23 => (cond (decide (x23 < (((x1).length : Nat) : Int))) (jn (fun (x30 : Int) => (req (0 ≤ x30 ∧ x30 < ((x20).length : Int)) (jn (fun (x40 : Int) => (req (0 ≤ x23 ∧ x23 < ((x3).length : Int)) (req (0 ≤ x30 ∧ x30 < ((x20).length : Int)) (req (0 ≤ x30 ∧ x30 < (((x20.set (x30).toNat ((IntKind.i64.wrap (x40 + (atI x3 x23)))))).length : Int)) (req (((x22 ++ [(⟨x23, x30, x40, (atI ((x20.set (x30).toNat ((IntKind.i64.wrap (x40 + (atI x3 x23)))))) x30)⟩ : TSpan)])).length * 32 ≤ 140737488355328) (F_clockworkref28_Limited_L1 x1 x3 x5 J15 n24 ((x20.set (x30).toNat ((IntKind.i64.wrap (x40 + (atI x3 x23)))))) ((x22 ++ [(⟨x23, x30, x40, (atI ((x20.set (x30).toNat ((IntKind.i64.wrap (x40 + (atI x3 x23)))))) x30)⟩ : TSpan)])) ((IntKind.i64.wrap (x23 + (1 : Int)))))))))) (fun J41 => (F_clockworkref28_Limited_L2 x23 x1 x22 J41 (1000000 : Nat) ((atI x20 x30)) ((0 : Int))))))) (fun J31 => (F_clockworkref28_Limited_L3 x5 x20 J31 ((x5).toNat + 1) ((0 : Int)) ((1 : Int))))) (J15 x20 x22))

def F_clockworkref28_Limited (x1 : List (List Int)) (x3 : List Int) (x5 : Int) : Option (List TSpan × Int) :=
  (bnd (F_clockworkref28_Valid x1 x3 x5) fun x6 => (cond (!x6) (some (([] : List TSpan), (1 : Int))) (req (0 ≤ x5 ∧ x5 ≤ x5) (req (8 * (x5).toNat ≤ 281474976710656) (jn (fun (x12 : List Int) (x14 : List TSpan) => (some (x14, (0 : Int)))) (fun J15 => (F_clockworkref28_Limited_L1 x1 x3 x5 J15 (((((x1).length : Nat) : Int)).toNat + 1) ((List.replicate (x5).toNat (default : Int))) (([] : List TSpan)) ((0 : Int)))))))))

set_option maxRecDepth 100000 in
theorem W_clockworkref28_Limited {V : View} (x1 : List (List Int)) (x3 : List Int) (x5 : Int) {a2 : Option Addr} {k2 : Nat} {a4 : Option Addr} {k4 : Nat} (h2 : SlAt (cSl (cInt .i64)) V a2 k2 x1) (h4 : SlAt (cInt .i64) V a4 k4 x3) {r : List TSpan × Int} (hF : F_clockworkref28_Limited x1 x3 x5 = some r) :
    Spec Try.prog 19 [.slice a2 ((x1).length) (k2), .slice a4 ((x3).length) (k4), .int .i64 (x5)] V (fun V' v => ∃ (a96 : Option Addr) (k96 : Nat), v = .tuple ⟨[.slice a96 ((r.1).length) (k96), .int .i64 (r.2)]⟩ ∧ SlAt cTSpan V' a96 k96 r.1) := by
  unfold F_clockworkref28_Limited at hF
  refine Spec.enter (T := tyT) Try.func19 rfl (by kernel_rfl) rfl rfl rfl ?_
  refine Exec.run tyOk 400 rfl ?_
  obtain ⟨x6, hx6, hF⟩ := bnd_some hF
  refine Exec.callS (.bool (x6)) rfl rfl (W_clockworkref28_Valid x1 x3 x5 h2 h4 hx6) ?_
  refine Exec.run tyOk 400 rfl ?_
  rcases cond_some hF with ⟨hb, hF⟩ | ⟨hb, hF⟩
  · skip
    refine Exec.ifT rfl hb ?_
    refine Exec.run tyOk 400 rfl ?_
    obtain rfl := some_inj hF
    exact Exec.ret tyOk rfl rfl ⟨_, _, rfl, SlAt.nil⟩
  · skip
    refine Exec.ifF rfl hb ?_
    refine Exec.run tyOk 400 rfl ?_
    obtain ⟨q7, hF⟩ := req_some hF
    obtain ⟨q8, hF⟩ := req_some hF
    refine Exec.mkr tyOk rfl rfl rfl rfl (nm := ((List.replicate (x5).toNat (default : Int))).length) (by simp) q7 q8 (fun _ => rfl) (fun a9 => ?_)
    have h9 : RowRep (cInt .i64) V (List.replicate (x5).toNat (default : Int)) ((List.replicate ((List.replicate (x5).toNat (default : Int))).length [.int .i64 (0)]).flatten) := by rw [List.length_replicate]; exact RowRep.reps (c := (cInt .i64)) rfl _
    refine Exec.run tyOk 11 rfl ?_
    refine Exec.row0 31 4 rfl ?_
    have h10 : RowRep cTSpan V ([] : List TSpan) [] := RowRep.nil
    obtain ⟨J15, hJ15, hF⟩ := jn_some hF
    refine Exec.seam (fun L' V' M' => ∃ (x12 : List Int) (a11 : Option Addr) (k11 : Nat) (cs11 : List Value) (x14 : List TSpan) (a13 : Option Addr) (k13 : Nat) (cs13 : List Value), L' = [(9, .v (.slice a13 ((x14).length) (k13)))] ∧ M' = [.row (.slice a11 ((x12).length) (k11)) cs11 3 1, .row (.slice a13 ((x14).length) (k13)) cs13 31 4] ∧ RowRep (cInt .i64) V' x12 cs11 ∧ RowRep cTSpan V' x14 cs13 ∧ J15 x12 x14 = some r) rfl ?_ ?_
    · rintro L' V16 M' ⟨x12, a11, k11, cs11, x14, a13, k13, cs13, rfl, rfl, h11, h13, hF⟩
      subst hJ15
      refine Exec.run tyOk 400 rfl ?_
      refine Exec.frz 1 rfl rfl rfl (fun V17 hv17 hd17 hn17 => ?_)
      have hz17 := RowRep.slat h13 hv17 hd17 hn17
      have h18 := RowRep.mono hv17 h11
      obtain rfl := some_inj hF
      exact Exec.ret tyOk rfl rfl ⟨_, _, rfl, hz17⟩
    · skip
      refine Exec.run tyOk 400 rfl ?_
      refine Exec.loop (fun n24 L' V' M' => ∃ (x20 : List Int) (a19 : Option Addr) (k19 : Nat) (cs19 : List Value) (x22 : List TSpan) (a21 : Option Addr) (k21 : Nat) (cs21 : List Value) (x23 : Int), L' = [(0, .v (.slice a2 ((x1).length) (k2))), (1, .v (.slice a4 ((x3).length) (k4))), (2, .v (.int .i64 (x5))), (8, .v (.slice a19 ((x20).length) (k19))), (9, .v (.slice a21 ((x22).length) (k21))), (10, .v (.int .i64 (x23)))] ∧ M' = [.row (.slice a19 ((x20).length) (k19)) cs19 3 1, .row (.slice a21 ((x22).length) (k21)) cs21 31 4] ∧ RowRep (cInt .i64) V' x20 cs19 ∧ RowRep cTSpan V' x22 cs21 ∧ SlAt (cSl (cInt .i64)) V' a2 k2 x1 ∧ SlAt (cInt .i64) V' a4 k4 x3 ∧ F_clockworkref28_Limited_L1 x1 x3 x5 J15 n24 x20 x22 x23 = some r) ⟨(((((x1).length : Nat) : Int)).toNat + 1), [(0, .v (.slice a2 ((x1).length) (k2))), (1, .v (.slice a4 ((x3).length) (k4))), (2, .v (.int .i64 (x5))), (8, .v (.slice ((some a9)) (((List.replicate (x5).toNat (default : Int))).length) ((x5).toNat))), (9, .v (.slice none ((([] : List TSpan)).length) (0))), (10, .v (.int .i64 ((0 : Int))))], ⟨rfl, rfl, rfl, rfl, rfl, rfl, trivial⟩, (List.replicate (x5).toNat (default : Int)), (some a9), (x5).toNat, ((List.replicate ((List.replicate (x5).toNat (default : Int))).length [.int .i64 (0)]).flatten), ([] : List TSpan), none, 0, [], (0 : Int), rfl, rfl, h9, h10, h2, h4, hF⟩ ?_
      rintro n24 L' V25 M' ⟨x20, a19, k19, cs19, x22, a21, k21, cs21, x23, rfl, rfl, h19, h21, h26, h27, hF⟩
      rcases n24 with _ | n24
      · exact absurd hF (by simp [F_clockworkref28_Limited_L1])
      rw [F_clockworkref28_Limited_L1] at hF
      refine Exec.run tyOk 400 rfl ?_
      rcases cond_some hF with ⟨hb, hF⟩ | ⟨hb, hF⟩
      · skip
        refine Exec.ifT rfl hb ?_
        refine Exec.run tyOk 12 rfl ?_
        obtain ⟨J31, hJ31, hF⟩ := jn_some hF
        refine Exec.seam (fun L' V' M' => ∃ (x30 : Int), L' = [(0, .v (.slice a2 ((x1).length) (k2))), (1, .v (.slice a4 ((x3).length) (k4))), (2, .v (.int .i64 (x5))), (8, .v (.slice a19 ((x20).length) (k19))), (9, .v (.slice a21 ((x22).length) (k21))), (10, .v (.int .i64 (x23))), (11, .v (.int .i64 (x30)))] ∧ M' = [.row (.slice a19 ((x20).length) (k19)) cs19 3 1, .row (.slice a21 ((x22).length) (k21)) cs21 31 4] ∧ RowRep (cInt .i64) V' x20 cs19 ∧ RowRep cTSpan V' x22 cs21 ∧ SlAt (cSl (cInt .i64)) V' a2 k2 x1 ∧ SlAt (cInt .i64) V' a4 k4 x3 ∧ J31 x30 = some r) rfl ?_ ?_
        · rintro L' V32 M' ⟨x30, rfl, rfl, h28, h29, h33, h34, hF⟩
          subst hJ31
          refine Exec.run tyOk 400 rfl ?_
          obtain ⟨q35, hF⟩ := req_some hF
          refine Exec.rowI 0 rfl (fun ra36 rb36 rc36 => ?_)
          obtain ⟨c37, hr37, hd37⟩ := RowRep.get h28 q35
          obtain rfl := hr37
          have rd36 : 0 ≤ x30 ∧ x30 < (((x20).length : Nat) : Int) := q35
          have rs36 := rb36 (by omega)
          refine Exec.ia tyOk rfl rfl ⟨rd36.1, rd36.2, rs36⟩ ?_
          refine Exec.run tyOk 400 rfl ?_
          refine Exec.ldR tyOk 0 (x := .int .i64 ((atI x20 x30))) rfl rfl rfl ⟨hd37, rs36⟩ rfl rfl ?_
          refine Exec.run tyOk 7 rfl ?_
          obtain ⟨J41, hJ41, hF⟩ := jn_some hF
          refine Exec.seam (fun L' V' M' => ∃ (x40 : Int), L' = [(0, .v (.slice a2 ((x1).length) (k2))), (1, .v (.slice a4 ((x3).length) (k4))), (2, .v (.int .i64 (x5))), (8, .v (.slice a19 ((x20).length) (k19))), (9, .v (.slice a21 ((x22).length) (k21))), (10, .v (.int .i64 (x23))), (11, .v (.int .i64 (x30))), (13, .v (.int .i64 (x40)))] ∧ M' = [.row (.slice a19 ((x20).length) (k19)) cs19 3 1, .row (.slice a21 ((x22).length) (k21)) cs21 31 4] ∧ RowRep (cInt .i64) V' x20 cs19 ∧ RowRep cTSpan V' x22 cs21 ∧ SlAt (cSl (cInt .i64)) V' a2 k2 x1 ∧ SlAt (cInt .i64) V' a4 k4 x3 ∧ J41 x40 = some r) rfl ?_ ?_
          · rintro L' V42 M' ⟨x40, rfl, rfl, h38, h39, h43, h44, hF⟩
            subst hJ41
            refine Exec.run tyOk 400 rfl ?_
            obtain ⟨q45, hF⟩ := req_some hF
            obtain ⟨c46, hr46, hd46⟩ := SlAt.get h44 q45
            obtain rfl := hr46
            refine Exec.ia tyOk rfl rfl ⟨q45.1, q45.2, hd46.some⟩ ?_
            refine Exec.run tyOk 400 rfl ?_
            refine Exec.ld tyOk (x := .int .i64 ((atI x3 x23))) rfl rfl hd46 rfl rfl ?_
            refine Exec.run tyOk 400 rfl ?_
            obtain ⟨q47, hF⟩ := req_some hF
            refine Exec.rowI 0 rfl (fun ra48 rb48 rc48 => ?_)
            obtain ⟨c49, hr49, hd49⟩ := RowRep.get h38 q47
            obtain rfl := hr49
            have rd48 : 0 ≤ x30 ∧ x30 < (((x20).length : Nat) : Int) := q47
            have rs48 := rb48 (by omega)
            refine Exec.ia tyOk rfl rfl ⟨rd48.1, rd48.2, rs48⟩ ?_
            refine Exec.run tyOk 400 rfl ?_
            have rl50 := RowRep.len h38
            have h50 : RowRep (cInt .i64) V42 (x20.set (x30).toNat ((IntKind.i64.wrap (x40 + (atI x3 x23))))) (cs19.take ((x30).toNat * 1) ++ [.int .i64 ((IntKind.i64.wrap (x40 + (atI x3 x23))))] ++ cs19.drop (((x30).toNat * 1) + 1)) := RowRep.set h38 q47 rfl
            refine Exec.stR tyOk 0 rfl rfl rfl rfl rfl rs48 (stB q47 rl50) rfl rfl rfl ?_
            refine Exec.run tyOk 400 rfl ?_
            obtain ⟨q51, hF⟩ := req_some hF
            refine Exec.rowI 0 rfl (fun ra52 rb52 rc52 => ?_)
            obtain ⟨c53, hr53, hd53⟩ := RowRep.get h50 q51
            obtain rfl := hr53
            have rd52 : 0 ≤ x30 ∧ x30 < (((x20).length : Nat) : Int) := (by simpa using q51)
            have rs52 := rb52 (by omega)
            refine Exec.ia tyOk rfl rfl ⟨rd52.1, rd52.2, rs52⟩ ?_
            refine Exec.run tyOk 400 rfl ?_
            refine Exec.ldR tyOk 0 (x := .int .i64 ((atI ((x20.set (x30).toNat ((IntKind.i64.wrap (x40 + (atI x3 x23)))))) x30))) rfl rfl rfl ⟨hd53, rs52⟩ rfl rfl ?_
            refine Exec.run tyOk 400 rfl ?_
            refine Exec.bsl tyOk rfl rfl ?_
            refine Exec.run tyOk 400 rfl ?_
            obtain ⟨q55, hF⟩ := req_some hF
            refine Exec.app tyOk 1 2 (nm := ((x22 ++ [(⟨x23, x30, x40, (atI ((x20.set (x30).toNat ((IntKind.i64.wrap (x40 + (atI x3 x23)))))) x30)⟩ : TSpan)])).length) rfl rfl rfl rfl rfl rfl rfl rfl rfl (by simp) (fun _ _ => rfl) rfl q55 (fun a54 k54 => ?_)
            have h54 : RowRep cTSpan V42 (x22 ++ [(⟨x23, x30, x40, (atI ((x20.set (x30).toNat ((IntKind.i64.wrap (x40 + (atI x3 x23)))))) x30)⟩ : TSpan)]) (cs21 ++ [.int .i64 (x23), .int .i64 (x30), .int .i64 (x40), .int .i64 ((atI ((x20.set (x30).toNat ((IntKind.i64.wrap (x40 + (atI x3 x23)))))) x30))]) := RowRep.app h39 ⟨_, _, rfl, rfl, rfl⟩
            refine Exec.run tyOk 400 rfl ?_
            refine Exec.cut 2 [(0, .v (.slice a2 ((x1).length) (k2))), (1, .v (.slice a4 ((x3).length) (k4))), (2, .v (.int .i64 (x5))), (8, .v (.slice a19 ((x20).length) (k19))), (9, .v (.slice a54 (((x22 ++ [(⟨x23, x30, x40, (atI ((x20.set (x30).toNat ((IntKind.i64.wrap (x40 + (atI x3 x23)))))) x30)⟩ : TSpan)])).length) (k54))), (10, .v (.int .i64 ((IntKind.i64.wrap (x23 + (1 : Int))))))] (M' := [.row (.slice a19 ((x20).length) (k19)) ((cs19.take ((x30).toNat * 1) ++ [.int .i64 ((IntKind.i64.wrap (x40 + (atI x3 x23))))] ++ cs19.drop (((x30).toNat * 1) + 1))) 3 1, .row (.slice a54 (((x22 ++ [(⟨x23, x30, x40, (atI ((x20.set (x30).toNat ((IntKind.i64.wrap (x40 + (atI x3 x23)))))) x30)⟩ : TSpan)])).length) (k54)) ((cs21 ++ [.int .i64 (x23), .int .i64 (x30), .int .i64 (x40), .int .i64 ((atI ((x20.set (x30).toNat ((IntKind.i64.wrap (x40 + (atI x3 x23)))))) x30))])) 31 4]) rfl ⟨rfl, rfl, rfl, rfl, rfl, rfl, trivial⟩ rfl rfl rfl ?_
            exact Exec.round [(0, .v (.slice a2 ((x1).length) (k2))), (1, .v (.slice a4 ((x3).length) (k4))), (2, .v (.int .i64 (x5))), (8, .v (.slice a19 (((x20.set (x30).toNat ((IntKind.i64.wrap (x40 + (atI x3 x23)))))).length) (k19))), (9, .v (.slice a54 (((x22 ++ [(⟨x23, x30, x40, (atI ((x20.set (x30).toNat ((IntKind.i64.wrap (x40 + (atI x3 x23)))))) x30)⟩ : TSpan)])).length) (k54))), (10, .v (.int .i64 ((IntKind.i64.wrap (x23 + (1 : Int))))))] ⟨rfl, rfl, rfl, look_eq rfl (by simp), rfl, rfl, trivial⟩ ⟨n24, Nat.lt_succ_self _, (x20.set (x30).toNat ((IntKind.i64.wrap (x40 + (atI x3 x23))))), a19, k19, (cs19.take ((x30).toNat * 1) ++ [.int .i64 ((IntKind.i64.wrap (x40 + (atI x3 x23))))] ++ cs19.drop (((x30).toNat * 1) + 1)), (x22 ++ [(⟨x23, x30, x40, (atI ((x20.set (x30).toNat ((IntKind.i64.wrap (x40 + (atI x3 x23)))))) x30)⟩ : TSpan)]), a54, k54, (cs21 ++ [.int .i64 (x23), .int .i64 (x30), .int .i64 (x40), .int .i64 ((atI ((x20.set (x30).toNat ((IntKind.i64.wrap (x40 + (atI x3 x23)))))) x30))]), (IntKind.i64.wrap (x23 + (1 : Int))), rfl, (by simp), h50, h54, h43, h44, hF⟩
          · skip
            refine Exec.run tyOk 400 rfl ?_
            refine Exec.loop (fun n60 L' V' M' => ∃ (x58 : Int) (x59 : Int), L' = [(0, .v (.slice a2 ((x1).length) (k2))), (1, .v (.slice a4 ((x3).length) (k4))), (2, .v (.int .i64 (x5))), (8, .v (.slice a19 ((x20).length) (k19))), (9, .v (.slice a21 ((x22).length) (k21))), (10, .v (.int .i64 (x23))), (11, .v (.int .i64 (x30))), (13, .v (.int .i64 (x58))), (14, .v (.int .i64 (x59)))] ∧ M' = [.row (.slice a19 ((x20).length) (k19)) cs19 3 1, .row (.slice a21 ((x22).length) (k21)) cs21 31 4] ∧ RowRep (cInt .i64) V' x20 cs19 ∧ RowRep cTSpan V' x22 cs21 ∧ SlAt (cSl (cInt .i64)) V' a2 k2 x1 ∧ SlAt (cInt .i64) V' a4 k4 x3 ∧ F_clockworkref28_Limited_L2 x23 x1 x22 J41 n60 x58 x59 = some r) ⟨(1000000 : Nat), [(0, .v (.slice a2 ((x1).length) (k2))), (1, .v (.slice a4 ((x3).length) (k4))), (2, .v (.int .i64 (x5))), (8, .v (.slice a19 ((x20).length) (k19))), (9, .v (.slice a21 ((x22).length) (k21))), (10, .v (.int .i64 (x23))), (11, .v (.int .i64 (x30))), (13, .v (.int .i64 ((atI x20 x30)))), (14, .v (.int .i64 ((0 : Int))))], ⟨rfl, rfl, rfl, rfl, rfl, rfl, rfl, rfl, rfl, trivial⟩, (atI x20 x30), (0 : Int), rfl, rfl, h28, h29, h33, h34, hF⟩ ?_
            rintro n60 L' V61 M' ⟨x58, x59, rfl, rfl, h56, h57, h62, h63, hF⟩
            rcases n60 with _ | n60
            · exact absurd hF (by simp [F_clockworkref28_Limited_L2])
            rw [F_clockworkref28_Limited_L2] at hF
            refine Exec.run tyOk 400 rfl ?_
            obtain ⟨q64, hF⟩ := req_some hF
            obtain ⟨c65, hr65, hd65⟩ := SlAt.get h62 q64
            obtain ⟨a66, k66, rfl, h66⟩ := hr65
            refine Exec.ia tyOk rfl rfl ⟨q64.1, q64.2, hd65.some⟩ ?_
            refine Exec.run tyOk 400 rfl ?_
            refine Exec.ld tyOk (x := .slice a66 (((atI x1 x23)).length) (k66)) rfl rfl hd65 rfl rfl ?_
            refine Exec.run tyOk 400 rfl ?_
            rcases cond_some hF with ⟨hb, hF⟩ | ⟨hb, hF⟩
            · skip
              refine Exec.ifT rfl hb ?_
              refine Exec.run tyOk 400 rfl ?_
              obtain ⟨q67, hF⟩ := req_some hF
              obtain ⟨c68, hr68, hd68⟩ := SlAt.get h62 q67
              obtain ⟨a69, k69, rfl, h69⟩ := hr68
              refine Exec.ia tyOk rfl rfl ⟨q67.1, q67.2, hd68.some⟩ ?_
              refine Exec.run tyOk 400 rfl ?_
              refine Exec.ld tyOk (x := .slice a69 (((atI x1 x23)).length) (k69)) rfl rfl hd68 rfl rfl ?_
              refine Exec.run tyOk 400 rfl ?_
              obtain ⟨q70, hF⟩ := req_some hF
              obtain ⟨c71, hr71, hd71⟩ := SlAt.get h69 q70
              obtain rfl := hr71
              refine Exec.ia tyOk rfl rfl ⟨q70.1, q70.2, hd71.some⟩ ?_
              refine Exec.run tyOk 400 rfl ?_
              refine Exec.ld tyOk (x := .int .i64 ((atI ((atI x1 x23)) x59))) rfl rfl hd71 rfl rfl ?_
              refine Exec.run tyOk 400 rfl ?_
              obtain ⟨q72, hF⟩ := req_some hF
              refine Exec.rowI 1 rfl (fun ra73 rb73 rc73 => ?_)
              obtain ⟨c74, hr74, hd74⟩ := RowRep.get h57 q72
              obtain rfl := hr74
              have rd73 : 0 ≤ (atI ((atI x1 x23)) x59) ∧ (atI ((atI x1 x23)) x59) < (((x22).length : Nat) : Int) := q72
              have rs73 := rb73 (by omega)
              refine Exec.ia tyOk rfl rfl ⟨rd73.1, rd73.2, rs73⟩ ?_
              refine Exec.run tyOk 400 rfl ?_
              refine Exec.ldR tyOk 1 (x := .int .i64 ((atI x22 ((atI ((atI x1 x23)) x59))).End)) rfl rfl rfl ⟨(CellsAt.part hd74 3 1 rfl), rs73⟩ rfl rfl ?_
              refine Exec.run tyOk 400 rfl ?_
              exact Exec.round [(0, .v (.slice a2 ((x1).length) (k2))), (1, .v (.slice a4 ((x3).length) (k4))), (2, .v (.int .i64 (x5))), (8, .v (.slice a19 ((x20).length) (k19))), (9, .v (.slice a21 ((x22).length) (k21))), (10, .v (.int .i64 (x23))), (11, .v (.int .i64 (x30))), (13, .v (.int .i64 ((max x58 (atI x22 ((atI ((atI x1 x23)) x59))).End)))), (14, .v (.int .i64 ((IntKind.i64.wrap (x59 + (1 : Int))))))] ⟨rfl, rfl, rfl, rfl, rfl, rfl, rfl, rfl, rfl, trivial⟩ ⟨n60, Nat.lt_succ_self _, (max x58 (atI x22 ((atI ((atI x1 x23)) x59))).End), (IntKind.i64.wrap (x59 + (1 : Int))), rfl, rfl, h56, h57, h62, h63, hF⟩
            · skip
              refine Exec.ifF rfl hb ?_
              refine Exec.run tyOk 400 rfl ?_
              exact Exec.round [(0, .v (.slice a2 ((x1).length) (k2))), (1, .v (.slice a4 ((x3).length) (k4))), (2, .v (.int .i64 (x5))), (8, .v (.slice a19 ((x20).length) (k19))), (9, .v (.slice a21 ((x22).length) (k21))), (10, .v (.int .i64 (x23))), (11, .v (.int .i64 (x30))), (13, .v (.int .i64 (x58)))] ⟨rfl, rfl, rfl, rfl, rfl, rfl, rfl, rfl, trivial⟩ ⟨x58, rfl, rfl, h56, h57, h62, h63, hF⟩
        · skip
          refine Exec.run tyOk 400 rfl ?_
          refine Exec.loop (fun n79 L' V' M' => ∃ (x77 : Int) (x78 : Int), L' = [(0, .v (.slice a2 ((x1).length) (k2))), (1, .v (.slice a4 ((x3).length) (k4))), (2, .v (.int .i64 (x5))), (8, .v (.slice a19 ((x20).length) (k19))), (9, .v (.slice a21 ((x22).length) (k21))), (10, .v (.int .i64 (x23))), (11, .v (.int .i64 (x77))), (12, .v (.int .i64 (x78)))] ∧ M' = [.row (.slice a19 ((x20).length) (k19)) cs19 3 1, .row (.slice a21 ((x22).length) (k21)) cs21 31 4] ∧ RowRep (cInt .i64) V' x20 cs19 ∧ RowRep cTSpan V' x22 cs21 ∧ SlAt (cSl (cInt .i64)) V' a2 k2 x1 ∧ SlAt (cInt .i64) V' a4 k4 x3 ∧ F_clockworkref28_Limited_L3 x5 x20 J31 n79 x77 x78 = some r) ⟨((x5).toNat + 1), [(0, .v (.slice a2 ((x1).length) (k2))), (1, .v (.slice a4 ((x3).length) (k4))), (2, .v (.int .i64 (x5))), (8, .v (.slice a19 ((x20).length) (k19))), (9, .v (.slice a21 ((x22).length) (k21))), (10, .v (.int .i64 (x23))), (11, .v (.int .i64 ((0 : Int)))), (12, .v (.int .i64 ((1 : Int))))], ⟨rfl, rfl, rfl, rfl, rfl, rfl, rfl, rfl, trivial⟩, (0 : Int), (1 : Int), rfl, rfl, h19, h21, h26, h27, hF⟩ ?_
          rintro n79 L' V80 M' ⟨x77, x78, rfl, rfl, h75, h76, h81, h82, hF⟩
          rcases n79 with _ | n79
          · exact absurd hF (by simp [F_clockworkref28_Limited_L3])
          rw [F_clockworkref28_Limited_L3] at hF
          refine Exec.run tyOk 400 rfl ?_
          rcases cond_some hF with ⟨hb, hF⟩ | ⟨hb, hF⟩
          · skip
            refine Exec.ifT rfl hb ?_
            refine Exec.run tyOk 400 rfl ?_
            refine Exec.draws tyOk [(0, true), (1, true), (2, true), (3, true), (4, true), (5, true), (6, true), (7, true), (8, true)] rfl (by kernel_rfl) ?_
            refine Exec.run tyOk 400 rfl ?_
            obtain ⟨q83, hF⟩ := req_some hF
            refine Exec.rowI 0 rfl (fun ra84 rb84 rc84 => ?_)
            obtain ⟨c85, hr85, hd85⟩ := RowRep.get h75 q83
            obtain rfl := hr85
            have rd84 : 0 ≤ x78 ∧ x78 < (((x20).length : Nat) : Int) := q83
            have rs84 := rb84 (by omega)
            refine Exec.fia tyOk rfl rfl rfl ⟨rd84.1, rd84.2, rs84⟩ ?_
            refine Exec.run tyOk 400 rfl ?_
            refine Exec.fldR tyOk 0 (x := .int .i64 ((atI x20 x78))) rfl rfl rfl rfl ⟨hd85, rs84⟩ rfl rfl ?_
            refine Exec.run tyOk 400 rfl ?_
            obtain ⟨q86, hF⟩ := req_some hF
            refine Exec.rowI 0 rfl (fun ra87 rb87 rc87 => ?_)
            obtain ⟨c88, hr88, hd88⟩ := RowRep.get h75 q86
            obtain rfl := hr88
            have rd87 : 0 ≤ x77 ∧ x77 < (((x20).length : Nat) : Int) := q86
            have rs87 := rb87 (by omega)
            refine Exec.fia tyOk rfl rfl rfl ⟨rd87.1, rd87.2, rs87⟩ ?_
            refine Exec.run tyOk 400 rfl ?_
            refine Exec.fldR tyOk 0 (x := .int .i64 ((atI x20 x77))) rfl rfl rfl rfl ⟨hd88, rs87⟩ rfl rfl ?_
            refine Exec.run tyOk 400 rfl ?_
            obtain ⟨J92, hJ92, hF⟩ := jn_some hF
            refine Exec.seam (fun L' V' M' => ∃ (x91 : Int), L' = [(0, .v (.slice a2 ((x1).length) (k2))), (1, .v (.slice a4 ((x3).length) (k4))), (2, .v (.int .i64 (x5))), (8, .v (.slice a19 ((x20).length) (k19))), (9, .v (.slice a21 ((x22).length) (k21))), (10, .v (.int .i64 (x23))), (11, .v (.int .i64 (x91))), (12, .v (.int .i64 (x78)))] ∧ M' = [.row (.slice a19 ((x20).length) (k19)) cs19 3 1, .row (.slice a21 ((x22).length) (k21)) cs21 31 4] ∧ RowRep (cInt .i64) V' x20 cs19 ∧ RowRep cTSpan V' x22 cs21 ∧ SlAt (cSl (cInt .i64)) V' a2 k2 x1 ∧ SlAt (cInt .i64) V' a4 k4 x3 ∧ J92 x91 = some r) rfl ?_ ?_
            · rintro L' V93 M' ⟨x91, rfl, rfl, h89, h90, h94, h95, hF⟩
              subst hJ92
              refine Exec.run tyOk 400 rfl ?_
              exact Exec.round [(0, .v (.slice a2 ((x1).length) (k2))), (1, .v (.slice a4 ((x3).length) (k4))), (2, .v (.int .i64 (x5))), (8, .v (.slice a19 ((x20).length) (k19))), (9, .v (.slice a21 ((x22).length) (k21))), (10, .v (.int .i64 (x23))), (11, .v (.int .i64 (x91))), (12, .v (.int .i64 ((IntKind.i64.wrap (x78 + (1 : Int))))))] ⟨rfl, rfl, rfl, rfl, rfl, rfl, rfl, rfl, trivial⟩ ⟨n79, Nat.lt_succ_self _, x91, (IntKind.i64.wrap (x78 + (1 : Int))), rfl, rfl, h89, h90, h94, h95, hF⟩
            · skip
              refine Exec.run tyOk 400 rfl ?_
              rcases cond_some hF with ⟨hb, hF⟩ | ⟨hb, hF⟩
              · skip
                refine Exec.ifT rfl hb ?_
                refine Exec.run tyOk 400 rfl ?_
                exact Exec.round [(0, .v (.slice a2 ((x1).length) (k2))), (1, .v (.slice a4 ((x3).length) (k4))), (2, .v (.int .i64 (x5))), (8, .v (.slice a19 ((x20).length) (k19))), (9, .v (.slice a21 ((x22).length) (k21))), (10, .v (.int .i64 (x23))), (11, .v (.int .i64 (x78))), (12, .v (.int .i64 (x78)))] ⟨rfl, rfl, rfl, rfl, rfl, rfl, rfl, rfl, trivial⟩ ⟨x78, rfl, rfl, h75, h76, h81, h82, hF⟩
              · skip
                refine Exec.ifF rfl hb ?_
                refine Exec.run tyOk 400 rfl ?_
                exact Exec.round [(0, .v (.slice a2 ((x1).length) (k2))), (1, .v (.slice a4 ((x3).length) (k4))), (2, .v (.int .i64 (x5))), (8, .v (.slice a19 ((x20).length) (k19))), (9, .v (.slice a21 ((x22).length) (k21))), (10, .v (.int .i64 (x23))), (11, .v (.int .i64 (x77))), (12, .v (.int .i64 (x78)))] ⟨rfl, rfl, rfl, rfl, rfl, rfl, rfl, rfl, trivial⟩ ⟨x77, rfl, rfl, h75, h76, h81, h82, hF⟩
          · skip
            refine Exec.ifF rfl hb ?_
            refine Exec.run tyOk 400 rfl ?_
            exact Exec.round [(0, .v (.slice a2 ((x1).length) (k2))), (1, .v (.slice a4 ((x3).length) (k4))), (2, .v (.int .i64 (x5))), (8, .v (.slice a19 ((x20).length) (k19))), (9, .v (.slice a21 ((x22).length) (k21))), (10, .v (.int .i64 (x23))), (11, .v (.int .i64 (x77)))] ⟨rfl, rfl, rfl, rfl, rfl, rfl, rfl, trivial⟩ ⟨x77, rfl, rfl, h75, h76, h81, h82, hF⟩
      · skip
        refine Exec.ifF rfl hb ?_
        refine Exec.run tyOk 400 rfl ?_
        exact Exec.round [(9, .v (.slice a21 ((x22).length) (k21)))] ⟨rfl, trivial⟩ ⟨x20, a19, k19, cs19, x22, a21, k21, cs21, rfl, rfl, h19, h21, hF⟩

def F_clockworkref28_Check_L2 (x25 : Int) (x6 : List TSpan) (J29 : Option Int) : Nat → Int → Option Int
  | 0, _ => none
  | n33 + 1, x32 => (cond (decide (x32 < x25)) (req (0 ≤ x25 ∧ x25 < ((x6).length : Int)) (req (0 ≤ x32 ∧ x32 < ((x6).length : Int)) (req (((((atI x6 x25).Worker == (atI x6 x32).Worker)) == true) = true → 0 ≤ x25 ∧ x25 < ((x6).length : Int)) (req (((((atI x6 x25).Worker == (atI x6 x32).Worker)) == true) = true → 0 ≤ x32 ∧ x32 < ((x6).length : Int)) (req ((((((atI x6 x25).Worker == (atI x6 x32).Worker) && (decide ((cond ((((atI x6 x25).Worker == (atI x6 x32).Worker)) == true) (atI x6 x25) default).Start < (cond ((((atI x6 x25).Worker == (atI x6 x32).Worker)) == true) (atI x6 x32) default).End)))) == true) = true → 0 ≤ x32 ∧ x32 < ((x6).length : Int)) (req ((((((atI x6 x25).Worker == (atI x6 x32).Worker) && (decide ((cond ((((atI x6 x25).Worker == (atI x6 x32).Worker)) == true) (atI x6 x25) default).Start < (cond ((((atI x6 x25).Worker == (atI x6 x32).Worker)) == true) (atI x6 x32) default).End)))) == true) = true → 0 ≤ x25 ∧ x25 < ((x6).length : Int)) (cond ((((atI x6 x25).Worker == (atI x6 x32).Worker) && (decide ((cond ((((atI x6 x25).Worker == (atI x6 x32).Worker)) == true) (atI x6 x25) default).Start < (cond ((((atI x6 x25).Worker == (atI x6 x32).Worker)) == true) (atI x6 x32) default).End))) && (decide ((cond (((((atI x6 x25).Worker == (atI x6 x32).Worker) && (decide ((cond ((((atI x6 x25).Worker == (atI x6 x32).Worker)) == true) (atI x6 x25) default).Start < (cond ((((atI x6 x25).Worker == (atI x6 x32).Worker)) == true) (atI x6 x32) default).End)))) == true) (atI x6 x32) default).Start < (cond (((((atI x6 x25).Worker == (atI x6 x32).Worker) && (decide ((cond ((((atI x6 x25).Worker == (atI x6 x32).Worker)) == true) (atI x6 x25) default).Start < (cond ((((atI x6 x25).Worker == (atI x6 x32).Worker)) == true) (atI x6 x32) default).End)))) == true) (atI x6 x25) default).End))) (some (2 : Int)) (F_clockworkref28_Check_L2 x25 x6 J29 n33 ((IntKind.i64.wrap (x32 + (1 : Int)))))))))))) J29)

def F_clockworkref28_Check_L1 (x6 : List TSpan) (J23 : Option Int) : Nat → Int → Option Int
  | 0, _ => none
  | n26 + 1, x25 => (cond (decide (x25 < (((x6).length : Nat) : Int))) (jn ((F_clockworkref28_Check_L1 x6 J23 n26 ((IntKind.i64.wrap (x25 + (1 : Int)))))) (fun J29 => (F_clockworkref28_Check_L2 x25 x6 J29 ((x25).toNat + 1) ((0 : Int))))) J23)

def F_clockworkref28_Check_L4 (x48 : Int) (x1 : List (List Int)) (x9 : List Int × Bool) (x6 : List TSpan) (J54 : Option Int) : Nat → Int → Option Int
  | 0, _ => none
  | n60 + 1, x59 => (req (0 ≤ x48 ∧ x48 < ((x1).length : Int)) (cond (decide (x59 < ((((atI x1 x48)).length : Nat) : Int))) (req (0 ≤ x48 ∧ x48 < ((x9.1).length : Int)) (req (0 ≤ (atI x9.1 x48) ∧ (atI x9.1 x48) < ((x6).length : Int)) (req (0 ≤ x48 ∧ x48 < ((x1).length : Int)) (req (0 ≤ x59 ∧ x59 < (((atI x1 x48)).length : Int)) (req (0 ≤ (atI ((atI x1 x48)) x59) ∧ (atI ((atI x1 x48)) x59) < ((x9.1).length : Int)) (req (0 ≤ (atI x9.1 ((atI ((atI x1 x48)) x59))) ∧ (atI x9.1 ((atI ((atI x1 x48)) x59))) < ((x6).length : Int)) (cond (decide ((atI x6 ((atI x9.1 x48))).Start < (atI x6 ((atI x9.1 ((atI ((atI x1 x48)) x59))))).End)) (some (16 : Int)) (F_clockworkref28_Check_L4 x48 x1 x9 x6 J54 n60 ((IntKind.i64.wrap (x59 + (1 : Int)))))))))))) J54))

def F_clockworkref28_Check_L3 (x1 : List (List Int)) (x9 : List Int × Bool) (x6 : List TSpan) (J20 : Option Int) : Nat → Int → Option Int
  | 0, _ => none
  | n49 + 1, x48 => (cond (decide (x48 < (((x1).length : Nat) : Int))) (jn ((F_clockworkref28_Check_L3 x1 x9 x6 J20 n49 ((IntKind.i64.wrap (x48 + (1 : Int)))))) (fun J54 => (F_clockworkref28_Check_L4 x48 x1 x9 x6 J54 (1000000 : Nat) ((0 : Int))))) J20)

def F_clockworkref28_Check_L5 (x6 : List TSpan) (x5 : Int) (x3 : List Int) (J15 : Option Int) : Nat → Int → Option Int
  | 0, _ => none
  | n82 + 1, x81 => (cond (decide (x81 < (((x6).length : Nat) : Int))) (req (0 ≤ x81 ∧ x81 < ((x6).length : Int)) (req (((((((decide ((atI x6 x81).Worker < (0 : Int))) || (decide (x5 ≤ (atI x6 x81).Worker))) || (decide ((atI x6 x81).Start < (0 : Int)))) || (decide ((atI x6 x81).End < (atI x6 x81).Start)))) == false) = true → 0 ≤ (atI x6 x81).Txn ∧ (atI x6 x81).Txn < ((x3).length : Int)) (cond (((((decide ((atI x6 x81).Worker < (0 : Int))) || (decide (x5 ≤ (atI x6 x81).Worker))) || (decide ((atI x6 x81).Start < (0 : Int)))) || (decide ((atI x6 x81).End < (atI x6 x81).Start))) || ((IntKind.i64.wrap ((atI x6 x81).End - (atI x6 x81).Start)) != (cond ((((((decide ((atI x6 x81).Worker < (0 : Int))) || (decide (x5 ≤ (atI x6 x81).Worker))) || (decide ((atI x6 x81).Start < (0 : Int)))) || (decide ((atI x6 x81).End < (atI x6 x81).Start)))) == false) (atI x3 ((atI x6 x81).Txn)) default))) (some (1 : Int)) (F_clockworkref28_Check_L5 x6 x5 x3 J15 n82 ((IntKind.i64.wrap (x81 + (1 : Int)))))))) J15)

def F_clockworkref28_Check (x1 : List (List Int)) (x3 : List Int) (x5 : Int) (x6 : List TSpan) : Option Int :=
  (bnd (F_clockworkref28_Valid x1 x3 x5) fun x8 => (cond (!x8) (some (1 : Int)) (bnd (F_clockworkref28_places x6 ((((x1).length : Nat) : Int))) fun x9 => (cond (!x9.2) (some (9 : Int)) (jn ((jn ((jn ((some (0 : Int))) (fun J23 => (F_clockworkref28_Check_L1 x6 J23 (((((x6).length : Nat) : Int)).toNat + 1) ((0 : Int)))))) (fun J20 => (F_clockworkref28_Check_L3 x1 x9 x6 J20 (((((x1).length : Nat) : Int)).toNat + 1) ((0 : Int)))))) (fun J15 => (F_clockworkref28_Check_L5 x6 x5 x3 J15 (((((x6).length : Nat) : Int)).toNat + 1) ((0 : Int)))))))))

set_option maxRecDepth 100000 in
theorem W_clockworkref28_Check {V : View} (x1 : List (List Int)) (x3 : List Int) (x5 : Int) (x6 : List TSpan) {a2 : Option Addr} {k2 : Nat} {a4 : Option Addr} {k4 : Nat} {a7 : Option Addr} {k7 : Nat} (h2 : SlAt (cSl (cInt .i64)) V a2 k2 x1) (h4 : SlAt (cInt .i64) V a4 k4 x3) (h7 : SlAt cTSpan V a7 k7 x6) {r : Int} (hF : F_clockworkref28_Check x1 x3 x5 x6 = some r) :
    Spec Try.prog 23 [.slice a2 ((x1).length) (k2), .slice a4 ((x3).length) (k4), .int .i64 (x5), .slice a7 ((x6).length) (k7)] V (fun _ v => v = .int .i64 (r)) := by
  unfold F_clockworkref28_Check at hF
  refine Spec.enter (T := tyT) Try.func23 rfl (by kernel_rfl) rfl rfl rfl ?_
  refine Exec.run tyOk 400 rfl ?_
  obtain ⟨x8, hx8, hF⟩ := bnd_some hF
  refine Exec.callS (.bool (x8)) rfl rfl (W_clockworkref28_Valid x1 x3 x5 h2 h4 hx8) ?_
  refine Exec.run tyOk 400 rfl ?_
  rcases cond_some hF with ⟨hb, hF⟩ | ⟨hb, hF⟩
  · skip
    refine Exec.ifT rfl hb ?_
    refine Exec.run tyOk 400 rfl ?_
    obtain rfl := some_inj hF
    exact Exec.ret tyOk rfl rfl rfl
  · skip
    refine Exec.ifF rfl hb ?_
    refine Exec.run tyOk 400 rfl ?_
    obtain ⟨x9, hx9, hF⟩ := bnd_some hF
    refine Exec.call rfl rfl (W_clockworkref28_places x6 ((((x1).length : Nat) : Int)) h7 hx9) ?_
    rintro V11 _ hv11 ⟨a10, k10, rfl, h10⟩
    have h12 := SlAt.mono h2 hv11
    have h13 := SlAt.mono h4 hv11
    have h14 := SlAt.mono h7 hv11
    refine Exec.run tyOk 400 rfl ?_
    rcases cond_some hF with ⟨hb, hF⟩ | ⟨hb, hF⟩
    · skip
      refine Exec.ifT rfl hb ?_
      refine Exec.run tyOk 400 rfl ?_
      obtain rfl := some_inj hF
      exact Exec.ret tyOk rfl rfl rfl
    · skip
      refine Exec.ifF rfl hb ?_
      refine Exec.run tyOk 6 rfl ?_
      obtain ⟨J15, hJ15, hF⟩ := jn_some hF
      refine Exec.seam (fun L' V' M' => L' = [(0, .v (.slice a2 ((x1).length) (k2))), (3, .v (.slice a7 ((x6).length) (k7))), (9, .v (.slice a10 ((x9.1).length) (k10)))] ∧ M' = [] ∧ SlAt (cSl (cInt .i64)) V' a2 k2 x1 ∧ SlAt cTSpan V' a7 k7 x6 ∧ SlAt (cInt .i64) V' a10 k10 x9.1 ∧ J15 = some r) rfl ?_ ?_
      · rintro L' V16 M' ⟨rfl, rfl, h17, h18, h19, hF⟩
        subst hJ15
        refine Exec.run tyOk 5 rfl ?_
        obtain ⟨J20, hJ20, hF⟩ := jn_some hF
        refine Exec.seam (fun L' V' M' => L' = [(3, .v (.slice a7 ((x6).length) (k7)))] ∧ M' = [] ∧ SlAt cTSpan V' a7 k7 x6 ∧ J20 = some r) rfl ?_ ?_
        · rintro L' V21 M' ⟨rfl, rfl, h22, hF⟩
          subst hJ20
          refine Exec.run tyOk 5 rfl ?_
          obtain ⟨J23, hJ23, hF⟩ := jn_some hF
          refine Exec.seam (fun L' V' M' => L' = [] ∧ M' = [] ∧ J23 = some r) rfl ?_ ?_
          · rintro L' V24 M' ⟨rfl, rfl, hF⟩
            subst hJ23
            refine Exec.run tyOk 400 rfl ?_
            obtain rfl := some_inj hF
            exact Exec.ret tyOk rfl rfl rfl
          · skip
            refine Exec.run tyOk 400 rfl ?_
            refine Exec.loop (fun n26 L' V' M' => ∃ (x25 : Int), L' = [(3, .v (.slice a7 ((x6).length) (k7))), (15, .v (.int .i64 (x25)))] ∧ M' = [] ∧ SlAt cTSpan V' a7 k7 x6 ∧ F_clockworkref28_Check_L1 x6 J23 n26 x25 = some r) ⟨(((((x6).length : Nat) : Int)).toNat + 1), [(3, .v (.slice a7 ((x6).length) (k7))), (15, .v (.int .i64 ((0 : Int))))], ⟨rfl, rfl, trivial⟩, (0 : Int), rfl, rfl, h22, hF⟩ ?_
            rintro n26 L' V27 M' ⟨x25, rfl, rfl, h28, hF⟩
            rcases n26 with _ | n26
            · exact absurd hF (by simp [F_clockworkref28_Check_L1])
            rw [F_clockworkref28_Check_L1] at hF
            refine Exec.run tyOk 400 rfl ?_
            rcases cond_some hF with ⟨hb, hF⟩ | ⟨hb, hF⟩
            · skip
              refine Exec.ifT rfl hb ?_
              refine Exec.run tyOk 7 rfl ?_
              obtain ⟨J29, hJ29, hF⟩ := jn_some hF
              refine Exec.seam (fun L' V' M' => L' = [(3, .v (.slice a7 ((x6).length) (k7))), (15, .v (.int .i64 (x25)))] ∧ M' = [] ∧ SlAt cTSpan V' a7 k7 x6 ∧ J29 = some r) rfl ?_ ?_
              · rintro L' V30 M' ⟨rfl, rfl, h31, hF⟩
                subst hJ29
                refine Exec.run tyOk 400 rfl ?_
                exact Exec.round [(3, .v (.slice a7 ((x6).length) (k7))), (15, .v (.int .i64 ((IntKind.i64.wrap (x25 + (1 : Int))))))] ⟨rfl, rfl, trivial⟩ ⟨n26, Nat.lt_succ_self _, (IntKind.i64.wrap (x25 + (1 : Int))), rfl, rfl, h31, hF⟩
              · skip
                refine Exec.run tyOk 400 rfl ?_
                refine Exec.loop (fun n33 L' V' M' => ∃ (x32 : Int), L' = [(3, .v (.slice a7 ((x6).length) (k7))), (15, .v (.int .i64 (x25))), (16, .v (.int .i64 (x32)))] ∧ M' = [] ∧ SlAt cTSpan V' a7 k7 x6 ∧ F_clockworkref28_Check_L2 x25 x6 J29 n33 x32 = some r) ⟨((x25).toNat + 1), [(3, .v (.slice a7 ((x6).length) (k7))), (15, .v (.int .i64 (x25))), (16, .v (.int .i64 ((0 : Int))))], ⟨rfl, rfl, rfl, trivial⟩, (0 : Int), rfl, rfl, h28, hF⟩ ?_
                rintro n33 L' V34 M' ⟨x32, rfl, rfl, h35, hF⟩
                rcases n33 with _ | n33
                · exact absurd hF (by simp [F_clockworkref28_Check_L2])
                rw [F_clockworkref28_Check_L2] at hF
                refine Exec.run tyOk 400 rfl ?_
                rcases cond_some hF with ⟨hb, hF⟩ | ⟨hb, hF⟩
                · skip
                  refine Exec.ifT rfl hb ?_
                  refine Exec.run tyOk 400 rfl ?_
                  refine Exec.draws tyOk [(0, true), (1, true), (2, true), (3, true), (4, true), (5, true), (6, true), (7, true), (8, true), (9, true), (10, true), (11, true), (12, true), (13, true), (14, true), (15, true), (16, true), (17, true), (18, true), (19, true), (20, true), (21, true), (22, true), (23, true), (24, true), (25, true), (26, true), (27, true), (28, true), (29, true), (30, true), (31, true), (32, true), (33, true), (34, true), (35, true), (36, true)] rfl (by kernel_rfl) ?_
                  refine Exec.run tyOk 400 rfl ?_
                  obtain ⟨q36, hF⟩ := req_some hF
                  obtain ⟨c37, hr37, hd37⟩ := SlAt.get h35 q36
                  obtain rfl := hr37
                  refine Exec.fia tyOk rfl rfl rfl ⟨q36.1, q36.2, hd37.some⟩ ?_
                  refine Exec.run tyOk 400 rfl ?_
                  refine Exec.fld tyOk (x := .int .i64 ((atI x6 x25).Worker)) rfl rfl rfl (RdAt.part hd37 1 1 rfl) rfl rfl ?_
                  refine Exec.run tyOk 400 rfl ?_
                  obtain ⟨q38, hF⟩ := req_some hF
                  obtain ⟨c39, hr39, hd39⟩ := SlAt.get h35 q38
                  obtain rfl := hr39
                  refine Exec.fia tyOk rfl rfl rfl ⟨q38.1, q38.2, hd39.some⟩ ?_
                  refine Exec.run tyOk 400 rfl ?_
                  refine Exec.fld tyOk (x := .int .i64 ((atI x6 x32).Worker)) rfl rfl rfl (RdAt.part hd39 1 1 rfl) rfl rfl ?_
                  refine Exec.run tyOk 400 rfl ?_
                  obtain ⟨q40, hF⟩ := req_some hF
                  obtain ⟨c41, hr41, hd41⟩ := SlAt.gget ((((atI x6 x25).Worker == (atI x6 x32).Worker)) == true) h35 q40
                  obtain rfl := hr41
                  refine Exec.fia tyOk rfl rfl rfl (fun gg0 => ⟨(q40 (gd1_of gg0)).1, (q40 (gd1_of gg0)).2, (hd41 (gd1_of gg0)).some⟩) ?_
                  refine Exec.run tyOk 400 rfl ?_
                  refine Exec.fld tyOk (x := .int .i64 ((cond ((((atI x6 x25).Worker == (atI x6 x32).Worker)) == true) (atI x6 x25) default).Start)) rfl rfl rfl (fun gg0 => (RdAt.part (hd41 (gd1_of gg0)) 2 1 rfl)) rfl rfl ?_
                  refine Exec.run tyOk 400 rfl ?_
                  obtain ⟨q42, hF⟩ := req_some hF
                  obtain ⟨c43, hr43, hd43⟩ := SlAt.gget ((((atI x6 x25).Worker == (atI x6 x32).Worker)) == true) h35 q42
                  obtain rfl := hr43
                  refine Exec.fia tyOk rfl rfl rfl (fun gg0 => ⟨(q42 (gd1_of gg0)).1, (q42 (gd1_of gg0)).2, (hd43 (gd1_of gg0)).some⟩) ?_
                  refine Exec.run tyOk 400 rfl ?_
                  refine Exec.fld tyOk (x := .int .i64 ((cond ((((atI x6 x25).Worker == (atI x6 x32).Worker)) == true) (atI x6 x32) default).End)) rfl rfl rfl (fun gg0 => (RdAt.part (hd43 (gd1_of gg0)) 3 1 rfl)) rfl rfl ?_
                  refine Exec.run tyOk 400 rfl ?_
                  obtain ⟨q44, hF⟩ := req_some hF
                  obtain ⟨c45, hr45, hd45⟩ := SlAt.gget (((((atI x6 x25).Worker == (atI x6 x32).Worker) && (decide ((cond ((((atI x6 x25).Worker == (atI x6 x32).Worker)) == true) (atI x6 x25) default).Start < (cond ((((atI x6 x25).Worker == (atI x6 x32).Worker)) == true) (atI x6 x32) default).End)))) == true) h35 q44
                  obtain rfl := hr45
                  refine Exec.fia tyOk rfl rfl rfl (fun gg0 => ⟨(q44 (gd1_of gg0)).1, (q44 (gd1_of gg0)).2, (hd45 (gd1_of gg0)).some⟩) ?_
                  refine Exec.run tyOk 400 rfl ?_
                  refine Exec.fld tyOk (x := .int .i64 ((cond (((((atI x6 x25).Worker == (atI x6 x32).Worker) && (decide ((cond ((((atI x6 x25).Worker == (atI x6 x32).Worker)) == true) (atI x6 x25) default).Start < (cond ((((atI x6 x25).Worker == (atI x6 x32).Worker)) == true) (atI x6 x32) default).End)))) == true) (atI x6 x32) default).Start)) rfl rfl rfl (fun gg0 => (RdAt.part (hd45 (gd1_of gg0)) 2 1 rfl)) rfl rfl ?_
                  refine Exec.run tyOk 400 rfl ?_
                  obtain ⟨q46, hF⟩ := req_some hF
                  obtain ⟨c47, hr47, hd47⟩ := SlAt.gget (((((atI x6 x25).Worker == (atI x6 x32).Worker) && (decide ((cond ((((atI x6 x25).Worker == (atI x6 x32).Worker)) == true) (atI x6 x25) default).Start < (cond ((((atI x6 x25).Worker == (atI x6 x32).Worker)) == true) (atI x6 x32) default).End)))) == true) h35 q46
                  obtain rfl := hr47
                  refine Exec.fia tyOk rfl rfl rfl (fun gg0 => ⟨(q46 (gd1_of gg0)).1, (q46 (gd1_of gg0)).2, (hd47 (gd1_of gg0)).some⟩) ?_
                  refine Exec.run tyOk 400 rfl ?_
                  refine Exec.fld tyOk (x := .int .i64 ((cond (((((atI x6 x25).Worker == (atI x6 x32).Worker) && (decide ((cond ((((atI x6 x25).Worker == (atI x6 x32).Worker)) == true) (atI x6 x25) default).Start < (cond ((((atI x6 x25).Worker == (atI x6 x32).Worker)) == true) (atI x6 x32) default).End)))) == true) (atI x6 x25) default).End)) rfl rfl rfl (fun gg0 => (RdAt.part (hd47 (gd1_of gg0)) 3 1 rfl)) rfl rfl ?_
                  refine Exec.run tyOk 400 rfl ?_
                  rcases cond_some hF with ⟨hb, hF⟩ | ⟨hb, hF⟩
                  · skip
                    refine Exec.ifT rfl hb ?_
                    refine Exec.run tyOk 400 rfl ?_
                    obtain rfl := some_inj hF
                    exact Exec.ret tyOk rfl rfl rfl
                  · skip
                    refine Exec.ifF rfl hb ?_
                    refine Exec.run tyOk 400 rfl ?_
                    exact Exec.round [(3, .v (.slice a7 ((x6).length) (k7))), (15, .v (.int .i64 (x25))), (16, .v (.int .i64 ((IntKind.i64.wrap (x32 + (1 : Int))))))] ⟨rfl, rfl, rfl, trivial⟩ ⟨n33, Nat.lt_succ_self _, (IntKind.i64.wrap (x32 + (1 : Int))), rfl, rfl, h35, hF⟩
                · skip
                  refine Exec.ifF rfl hb ?_
                  refine Exec.run tyOk 400 rfl ?_
                  exact Exec.round [(3, .v (.slice a7 ((x6).length) (k7))), (15, .v (.int .i64 (x25)))] ⟨rfl, rfl, trivial⟩ ⟨rfl, rfl, h35, hF⟩
            · skip
              refine Exec.ifF rfl hb ?_
              refine Exec.run tyOk 400 rfl ?_
              exact Exec.round [] trivial ⟨rfl, rfl, hF⟩
        · skip
          refine Exec.run tyOk 400 rfl ?_
          refine Exec.loop (fun n49 L' V' M' => ∃ (x48 : Int), L' = [(0, .v (.slice a2 ((x1).length) (k2))), (3, .v (.slice a7 ((x6).length) (k7))), (9, .v (.slice a10 ((x9.1).length) (k10))), (13, .v (.int .i64 (x48)))] ∧ M' = [] ∧ SlAt (cSl (cInt .i64)) V' a2 k2 x1 ∧ SlAt cTSpan V' a7 k7 x6 ∧ SlAt (cInt .i64) V' a10 k10 x9.1 ∧ F_clockworkref28_Check_L3 x1 x9 x6 J20 n49 x48 = some r) ⟨(((((x1).length : Nat) : Int)).toNat + 1), [(0, .v (.slice a2 ((x1).length) (k2))), (3, .v (.slice a7 ((x6).length) (k7))), (9, .v (.slice a10 ((x9.1).length) (k10))), (13, .v (.int .i64 ((0 : Int))))], ⟨rfl, rfl, rfl, rfl, trivial⟩, (0 : Int), rfl, rfl, h17, h18, h19, hF⟩ ?_
          rintro n49 L' V50 M' ⟨x48, rfl, rfl, h51, h52, h53, hF⟩
          rcases n49 with _ | n49
          · exact absurd hF (by simp [F_clockworkref28_Check_L3])
          rw [F_clockworkref28_Check_L3] at hF
          refine Exec.run tyOk 400 rfl ?_
          rcases cond_some hF with ⟨hb, hF⟩ | ⟨hb, hF⟩
          · skip
            refine Exec.ifT rfl hb ?_
            refine Exec.run tyOk 7 rfl ?_
            obtain ⟨J54, hJ54, hF⟩ := jn_some hF
            refine Exec.seam (fun L' V' M' => L' = [(0, .v (.slice a2 ((x1).length) (k2))), (3, .v (.slice a7 ((x6).length) (k7))), (9, .v (.slice a10 ((x9.1).length) (k10))), (13, .v (.int .i64 (x48)))] ∧ M' = [] ∧ SlAt (cSl (cInt .i64)) V' a2 k2 x1 ∧ SlAt cTSpan V' a7 k7 x6 ∧ SlAt (cInt .i64) V' a10 k10 x9.1 ∧ J54 = some r) rfl ?_ ?_
            · rintro L' V55 M' ⟨rfl, rfl, h56, h57, h58, hF⟩
              subst hJ54
              refine Exec.run tyOk 400 rfl ?_
              exact Exec.round [(0, .v (.slice a2 ((x1).length) (k2))), (3, .v (.slice a7 ((x6).length) (k7))), (9, .v (.slice a10 ((x9.1).length) (k10))), (13, .v (.int .i64 ((IntKind.i64.wrap (x48 + (1 : Int))))))] ⟨rfl, rfl, rfl, rfl, trivial⟩ ⟨n49, Nat.lt_succ_self _, (IntKind.i64.wrap (x48 + (1 : Int))), rfl, rfl, h56, h57, h58, hF⟩
            · skip
              refine Exec.run tyOk 400 rfl ?_
              refine Exec.loop (fun n60 L' V' M' => ∃ (x59 : Int), L' = [(0, .v (.slice a2 ((x1).length) (k2))), (3, .v (.slice a7 ((x6).length) (k7))), (9, .v (.slice a10 ((x9.1).length) (k10))), (13, .v (.int .i64 (x48))), (14, .v (.int .i64 (x59)))] ∧ M' = [] ∧ SlAt (cSl (cInt .i64)) V' a2 k2 x1 ∧ SlAt cTSpan V' a7 k7 x6 ∧ SlAt (cInt .i64) V' a10 k10 x9.1 ∧ F_clockworkref28_Check_L4 x48 x1 x9 x6 J54 n60 x59 = some r) ⟨(1000000 : Nat), [(0, .v (.slice a2 ((x1).length) (k2))), (3, .v (.slice a7 ((x6).length) (k7))), (9, .v (.slice a10 ((x9.1).length) (k10))), (13, .v (.int .i64 (x48))), (14, .v (.int .i64 ((0 : Int))))], ⟨rfl, rfl, rfl, rfl, rfl, trivial⟩, (0 : Int), rfl, rfl, h51, h52, h53, hF⟩ ?_
              rintro n60 L' V61 M' ⟨x59, rfl, rfl, h62, h63, h64, hF⟩
              rcases n60 with _ | n60
              · exact absurd hF (by simp [F_clockworkref28_Check_L4])
              rw [F_clockworkref28_Check_L4] at hF
              refine Exec.run tyOk 400 rfl ?_
              obtain ⟨q65, hF⟩ := req_some hF
              obtain ⟨c66, hr66, hd66⟩ := SlAt.get h62 q65
              obtain ⟨a67, k67, rfl, h67⟩ := hr66
              refine Exec.ia tyOk rfl rfl ⟨q65.1, q65.2, hd66.some⟩ ?_
              refine Exec.run tyOk 400 rfl ?_
              refine Exec.ld tyOk (x := .slice a67 (((atI x1 x48)).length) (k67)) rfl rfl hd66 rfl rfl ?_
              refine Exec.run tyOk 400 rfl ?_
              rcases cond_some hF with ⟨hb, hF⟩ | ⟨hb, hF⟩
              · skip
                refine Exec.ifT rfl hb ?_
                refine Exec.run tyOk 400 rfl ?_
                refine Exec.draws tyOk [(0, true), (1, true), (2, true), (3, true), (4, true), (5, true), (6, true), (7, true), (8, true), (9, true), (10, true), (11, true), (12, true), (13, true), (14, true), (15, true), (16, true), (17, true), (18, true), (19, true), (20, true), (21, true), (22, true)] rfl (by kernel_rfl) ?_
                refine Exec.run tyOk 400 rfl ?_
                obtain ⟨q68, hF⟩ := req_some hF
                obtain ⟨c69, hr69, hd69⟩ := SlAt.get h64 q68
                obtain rfl := hr69
                refine Exec.fia tyOk rfl rfl rfl ⟨q68.1, q68.2, hd69.some⟩ ?_
                refine Exec.run tyOk 400 rfl ?_
                refine Exec.fld tyOk (x := .int .i64 ((atI x9.1 x48))) rfl rfl rfl hd69 rfl rfl ?_
                refine Exec.run tyOk 400 rfl ?_
                obtain ⟨q70, hF⟩ := req_some hF
                obtain ⟨c71, hr71, hd71⟩ := SlAt.get h63 q70
                obtain rfl := hr71
                refine Exec.fia tyOk rfl rfl rfl ⟨q70.1, q70.2, hd71.some⟩ ?_
                refine Exec.run tyOk 400 rfl ?_
                refine Exec.fld tyOk (x := .int .i64 ((atI x6 ((atI x9.1 x48))).Start)) rfl rfl rfl (RdAt.part hd71 2 1 rfl) rfl rfl ?_
                refine Exec.run tyOk 400 rfl ?_
                obtain ⟨q72, hF⟩ := req_some hF
                obtain ⟨c73, hr73, hd73⟩ := SlAt.get h62 q72
                obtain ⟨a74, k74, rfl, h74⟩ := hr73
                refine Exec.fia tyOk rfl rfl rfl ⟨q72.1, q72.2, hd73.some⟩ ?_
                refine Exec.run tyOk 400 rfl ?_
                refine Exec.fld tyOk (x := .slice a74 (((atI x1 x48)).length) (k74)) rfl rfl rfl hd73 rfl rfl ?_
                refine Exec.run tyOk 400 rfl ?_
                obtain ⟨q75, hF⟩ := req_some hF
                obtain ⟨c76, hr76, hd76⟩ := SlAt.get h74 q75
                obtain rfl := hr76
                refine Exec.fia tyOk rfl rfl rfl ⟨q75.1, q75.2, hd76.some⟩ ?_
                refine Exec.run tyOk 400 rfl ?_
                refine Exec.fld tyOk (x := .int .i64 ((atI ((atI x1 x48)) x59))) rfl rfl rfl hd76 rfl rfl ?_
                refine Exec.run tyOk 400 rfl ?_
                obtain ⟨q77, hF⟩ := req_some hF
                obtain ⟨c78, hr78, hd78⟩ := SlAt.get h64 q77
                obtain rfl := hr78
                refine Exec.fia tyOk rfl rfl rfl ⟨q77.1, q77.2, hd78.some⟩ ?_
                refine Exec.run tyOk 400 rfl ?_
                refine Exec.fld tyOk (x := .int .i64 ((atI x9.1 ((atI ((atI x1 x48)) x59))))) rfl rfl rfl hd78 rfl rfl ?_
                refine Exec.run tyOk 400 rfl ?_
                obtain ⟨q79, hF⟩ := req_some hF
                obtain ⟨c80, hr80, hd80⟩ := SlAt.get h63 q79
                obtain rfl := hr80
                refine Exec.fia tyOk rfl rfl rfl ⟨q79.1, q79.2, hd80.some⟩ ?_
                refine Exec.run tyOk 400 rfl ?_
                refine Exec.fld tyOk (x := .int .i64 ((atI x6 ((atI x9.1 ((atI ((atI x1 x48)) x59))))).End)) rfl rfl rfl (RdAt.part hd80 3 1 rfl) rfl rfl ?_
                refine Exec.run tyOk 400 rfl ?_
                rcases cond_some hF with ⟨hb, hF⟩ | ⟨hb, hF⟩
                · skip
                  refine Exec.ifT rfl hb ?_
                  refine Exec.run tyOk 400 rfl ?_
                  obtain rfl := some_inj hF
                  exact Exec.ret tyOk rfl rfl rfl
                · skip
                  refine Exec.ifF rfl hb ?_
                  refine Exec.run tyOk 400 rfl ?_
                  exact Exec.round [(0, .v (.slice a2 ((x1).length) (k2))), (3, .v (.slice a7 ((x6).length) (k7))), (9, .v (.slice a10 ((x9.1).length) (k10))), (13, .v (.int .i64 (x48))), (14, .v (.int .i64 ((IntKind.i64.wrap (x59 + (1 : Int))))))] ⟨rfl, rfl, rfl, rfl, rfl, trivial⟩ ⟨n60, Nat.lt_succ_self _, (IntKind.i64.wrap (x59 + (1 : Int))), rfl, rfl, h62, h63, h64, hF⟩
              · skip
                refine Exec.ifF rfl hb ?_
                refine Exec.run tyOk 400 rfl ?_
                exact Exec.round [(0, .v (.slice a2 ((x1).length) (k2))), (3, .v (.slice a7 ((x6).length) (k7))), (9, .v (.slice a10 ((x9.1).length) (k10))), (13, .v (.int .i64 (x48)))] ⟨rfl, rfl, rfl, rfl, trivial⟩ ⟨rfl, rfl, h62, h63, h64, hF⟩
          · skip
            refine Exec.ifF rfl hb ?_
            refine Exec.run tyOk 400 rfl ?_
            exact Exec.round [(3, .v (.slice a7 ((x6).length) (k7)))] ⟨rfl, trivial⟩ ⟨rfl, rfl, h52, hF⟩
      · skip
        refine Exec.run tyOk 400 rfl ?_
        refine Exec.loop (fun n82 L' V' M' => ∃ (x81 : Int), L' = [(0, .v (.slice a2 ((x1).length) (k2))), (1, .v (.slice a4 ((x3).length) (k4))), (2, .v (.int .i64 (x5))), (3, .v (.slice a7 ((x6).length) (k7))), (9, .v (.slice a10 ((x9.1).length) (k10))), (11, .v (.int .i64 (x81)))] ∧ M' = [] ∧ SlAt (cSl (cInt .i64)) V' a2 k2 x1 ∧ SlAt (cInt .i64) V' a4 k4 x3 ∧ SlAt cTSpan V' a7 k7 x6 ∧ SlAt (cInt .i64) V' a10 k10 x9.1 ∧ F_clockworkref28_Check_L5 x6 x5 x3 J15 n82 x81 = some r) ⟨(((((x6).length : Nat) : Int)).toNat + 1), [(0, .v (.slice a2 ((x1).length) (k2))), (1, .v (.slice a4 ((x3).length) (k4))), (2, .v (.int .i64 (x5))), (3, .v (.slice a7 ((x6).length) (k7))), (9, .v (.slice a10 ((x9.1).length) (k10))), (11, .v (.int .i64 ((0 : Int))))], ⟨rfl, rfl, rfl, rfl, rfl, rfl, trivial⟩, (0 : Int), rfl, rfl, h12, h13, h14, h10, hF⟩ ?_
        rintro n82 L' V83 M' ⟨x81, rfl, rfl, h84, h85, h86, h87, hF⟩
        rcases n82 with _ | n82
        · exact absurd hF (by simp [F_clockworkref28_Check_L5])
        rw [F_clockworkref28_Check_L5] at hF
        refine Exec.run tyOk 400 rfl ?_
        rcases cond_some hF with ⟨hb, hF⟩ | ⟨hb, hF⟩
        · skip
          refine Exec.ifT rfl hb ?_
          refine Exec.run tyOk 400 rfl ?_
          obtain ⟨q88, hF⟩ := req_some hF
          obtain ⟨c89, hr89, hd89⟩ := SlAt.get h86 q88
          obtain rfl := hr89
          refine Exec.ia tyOk rfl rfl ⟨q88.1, q88.2, hd89.some⟩ ?_
          refine Exec.run tyOk 400 rfl ?_
          refine Exec.ld tyOk (x := .agg ⟨[.int .i64 ((atI x6 x81).Txn), .int .i64 ((atI x6 x81).Worker), .int .i64 ((atI x6 x81).Start), .int .i64 ((atI x6 x81).End)]⟩) rfl rfl hd89 rfl rfl ?_
          refine Exec.run tyOk 400 rfl ?_
          refine Exec.draws tyOk [(0, true), (1, true), (2, true), (3, true), (4, true), (5, true), (6, true), (7, true), (8, true), (9, true), (10, true), (11, true), (12, true), (13, true), (14, true), (15, true), (16, true), (17, true), (18, true), (19, true), (20, true), (21, true), (22, true), (23, true), (24, true), (25, true), (26, true), (27, true), (28, true), (29, true), (30, true), (31, true), (32, true), (33, true)] rfl (by kernel_rfl) ?_
          refine Exec.run tyOk 400 rfl ?_
          obtain ⟨q90, hF⟩ := req_some hF
          obtain ⟨c91, hr91, hd91⟩ := SlAt.gget ((((((decide ((atI x6 x81).Worker < (0 : Int))) || (decide (x5 ≤ (atI x6 x81).Worker))) || (decide ((atI x6 x81).Start < (0 : Int)))) || (decide ((atI x6 x81).End < (atI x6 x81).Start)))) == false) h85 q90
          obtain rfl := hr91
          refine Exec.fia tyOk rfl rfl rfl (fun gg0 => ⟨(q90 (gd1_of gg0)).1, (q90 (gd1_of gg0)).2, (hd91 (gd1_of gg0)).some⟩) ?_
          refine Exec.run tyOk 400 rfl ?_
          refine Exec.fld tyOk (x := .int .i64 ((cond ((((((decide ((atI x6 x81).Worker < (0 : Int))) || (decide (x5 ≤ (atI x6 x81).Worker))) || (decide ((atI x6 x81).Start < (0 : Int)))) || (decide ((atI x6 x81).End < (atI x6 x81).Start)))) == false) (atI x3 ((atI x6 x81).Txn)) default))) rfl rfl rfl (fun gg0 => (hd91 (gd1_of gg0))) rfl rfl ?_
          refine Exec.run tyOk 400 rfl ?_
          rcases cond_some hF with ⟨hb, hF⟩ | ⟨hb, hF⟩
          · skip
            refine Exec.ifT rfl hb ?_
            refine Exec.run tyOk 400 rfl ?_
            obtain rfl := some_inj hF
            exact Exec.ret tyOk rfl rfl rfl
          · skip
            refine Exec.ifF rfl hb ?_
            refine Exec.run tyOk 400 rfl ?_
            refine Exec.cut 0 [(0, .v (.slice a2 ((x1).length) (k2))), (1, .v (.slice a4 ((x3).length) (k4))), (2, .v (.int .i64 (x5))), (3, .v (.slice a7 ((x6).length) (k7))), (9, .v (.slice a10 ((x9.1).length) (k10))), (11, .v (.int .i64 ((IntKind.i64.wrap (x81 + (1 : Int))))))] (M' := []) rfl ⟨rfl, rfl, rfl, rfl, rfl, rfl, trivial⟩ rfl rfl rfl ?_
            exact Exec.round [(0, .v (.slice a2 ((x1).length) (k2))), (1, .v (.slice a4 ((x3).length) (k4))), (2, .v (.int .i64 (x5))), (3, .v (.slice a7 ((x6).length) (k7))), (9, .v (.slice a10 ((x9.1).length) (k10))), (11, .v (.int .i64 ((IntKind.i64.wrap (x81 + (1 : Int))))))] ⟨rfl, rfl, rfl, rfl, rfl, rfl, trivial⟩ ⟨n82, Nat.lt_succ_self _, (IntKind.i64.wrap (x81 + (1 : Int))), rfl, rfl, h84, h85, h86, h87, hF⟩
        · skip
          refine Exec.ifF rfl hb ?_
          refine Exec.run tyOk 400 rfl ?_
          exact Exec.round [(0, .v (.slice a2 ((x1).length) (k2))), (3, .v (.slice a7 ((x6).length) (k7))), (9, .v (.slice a10 ((x9.1).length) (k10)))] ⟨rfl, rfl, rfl, trivial⟩ ⟨rfl, rfl, h84, h86, h87, hF⟩

def F_mvsched_depends_1 (x1 : Str) (x2 : TFootprint) : Option Bool :=
  (bnd (F_slices_Contains_string_string x2.Reads x1) fun x5 => (some x5))

set_option maxRecDepth 100000 in
theorem W_mvsched_depends_1 {V : View} (x1 : Str) (x2 : TFootprint) {a3 : Option Addr} {k3 : Nat} {a4 : Option Addr} {k4 : Nat} {b0 o0 : Nat} (h3 : SlAt cStr V a3 k3 x2.Reads) (h4 : SlAt cStr V a4 k4 x2.Writes) (hc0 : RdAt V (some ⟨b0, o0, none⟩) 0 [.bool (x2.All), .slice a3 ((x2.Reads).length) (k3), .slice a4 ((x2.Writes).length) (k4)]) {r : Bool} (hF : F_mvsched_depends_1 x1 x2 = some r) :
    Spec Try.prog 44 [.string ⟨⟨x1⟩⟩, .pointer (some ⟨b0, o0, none⟩)] V (fun _ v => v = .bool (r)) := by
  unfold F_mvsched_depends_1 at hF
  refine Spec.enter (T := tyT) Try.func44 rfl (by kernel_rfl) rfl rfl rfl ?_
  refine Exec.run tyOk 400 rfl ?_
  refine Exec.ld tyOk (x := .slice a3 ((x2.Reads).length) (k3)) rfl rfl (RdAt.shift (RdAt.part hc0 1 1 rfl)) rfl rfl ?_
  refine Exec.run tyOk 400 rfl ?_
  obtain ⟨x5, hx5, hF⟩ := bnd_some hF
  refine Exec.callS (.bool (x5)) rfl rfl (W_slices_Contains_string_string x2.Reads x1 h3 hx5) ?_
  refine Exec.run tyOk 400 rfl ?_
  obtain rfl := some_inj hF
  exact Exec.ret tyOk rfl rfl rfl

def F_footprint_ascending_L1 (x1 : List Str) (J3 : Option Bool) : Nat → Int → Option Bool
  | 0, _ => none
  | n7 + 1, x6 => (cond (decide (x6 < (((x1).length : Nat) : Int))) (req (0 ≤ x6 ∧ x6 < ((x1).length : Int)) (bnd (F_keys_Valid ((atI x1 x6))) fun x12 => (req (((((decide ((0 : Int) < x6))) == true) && (((!x12)) == false)) = true → 0 ≤ (IntKind.i64.wrap (x6 - (1 : Int))) ∧ (IntKind.i64.wrap (x6 - (1 : Int))) < ((x1).length : Int)) (cond ((!x12) || ((decide ((0 : Int) < x6)) && (!sLt (cond ((((decide ((0 : Int) < x6))) == true) && (((!x12)) == false)) (atI x1 ((IntKind.i64.wrap (x6 - (1 : Int))))) default) (atI x1 x6)))) (some false) (F_footprint_ascending_L1 x1 J3 n7 ((IntKind.i64.wrap (x6 + (1 : Int))))))))) J3)

def F_footprint_ascending (x1 : List Str) : Option Bool :=
  (jn ((some (decide ((((x1).length : Nat) : Int) ≤ (64 : Int))))) (fun J3 => (F_footprint_ascending_L1 x1 J3 (((((x1).length : Nat) : Int)).toNat + 1) ((0 : Int)))))

set_option maxRecDepth 100000 in
theorem W_footprint_ascending {V : View} (x1 : List Str) {a2 : Option Addr} {k2 : Nat} (h2 : SlAt cStr V a2 k2 x1) {r : Bool} (hF : F_footprint_ascending x1 = some r) :
    Spec Try.prog 46 [.slice a2 ((x1).length) (k2)] V (fun _ v => v = .bool (r)) := by
  unfold F_footprint_ascending at hF
  refine Spec.enter (T := tyT) Try.func46 rfl (by kernel_rfl) rfl rfl rfl ?_
  refine Exec.run tyOk 11 rfl ?_
  obtain ⟨J3, hJ3, hF⟩ := jn_some hF
  refine Exec.seam (fun L' V' M' => L' = [(0, .v (.slice a2 ((x1).length) (k2)))] ∧ M' = [] ∧ SlAt cStr V' a2 k2 x1 ∧ J3 = some r) rfl ?_ ?_
  · rintro L' V4 M' ⟨rfl, rfl, h5, hF⟩
    subst hJ3
    refine Exec.run tyOk 400 rfl ?_
    obtain rfl := some_inj hF
    exact Exec.ret tyOk rfl rfl rfl
  · skip
    refine Exec.run tyOk 400 rfl ?_
    refine Exec.loop (fun n7 L' V' M' => ∃ (x6 : Int), L' = [(0, .v (.slice a2 ((x1).length) (k2))), (5, .v (.slice a2 ((x1).length) (k2))), (6, .v (.int .i64 ((((x1).length : Nat) : Int)))), (7, .v (.int .i64 (x6)))] ∧ M' = [] ∧ SlAt cStr V' a2 k2 x1 ∧ F_footprint_ascending_L1 x1 J3 n7 x6 = some r) ⟨(((((x1).length : Nat) : Int)).toNat + 1), [(0, .v (.slice a2 ((x1).length) (k2))), (5, .v (.slice a2 ((x1).length) (k2))), (6, .v (.int .i64 ((((x1).length : Nat) : Int)))), (7, .v (.int .i64 ((0 : Int))))], ⟨rfl, rfl, rfl, rfl, trivial⟩, (0 : Int), rfl, rfl, h2, hF⟩ ?_
    rintro n7 L' V8 M' ⟨x6, rfl, rfl, h9, hF⟩
    rcases n7 with _ | n7
    · exact absurd hF (by simp [F_footprint_ascending_L1])
    rw [F_footprint_ascending_L1] at hF
    refine Exec.run tyOk 400 rfl ?_
    rcases cond_some hF with ⟨hb, hF⟩ | ⟨hb, hF⟩
    · skip
      refine Exec.ifT rfl hb ?_
      refine Exec.run tyOk 400 rfl ?_
      obtain ⟨q10, hF⟩ := req_some hF
      obtain ⟨c11, hr11, hd11⟩ := SlAt.get h9 q10
      obtain rfl := hr11
      refine Exec.ia tyOk rfl rfl ⟨q10.1, q10.2, hd11.some⟩ ?_
      refine Exec.run tyOk 400 rfl ?_
      refine Exec.ld tyOk (x := .string ⟨⟨(atI x1 x6)⟩⟩) rfl rfl hd11 rfl rfl ?_
      refine Exec.run tyOk 400 rfl ?_
      obtain ⟨x12, hx12, hF⟩ := bnd_some hF
      refine Exec.callS (.bool (x12)) rfl rfl (W_keys_Valid ((atI x1 x6))  hx12) ?_
      refine Exec.run tyOk 400 rfl ?_
      obtain ⟨q13, hF⟩ := req_some hF
      obtain ⟨c14, hr14, hd14⟩ := SlAt.gget ((((decide ((0 : Int) < x6))) == true) && (((!x12)) == false)) h9 q13
      obtain rfl := hr14
      refine Exec.ia tyOk rfl rfl (fun gg0 gg1 => ⟨(q13 (gd2_of gg0 gg1)).1, (q13 (gd2_of gg0 gg1)).2, (hd14 (gd2_of gg0 gg1)).some⟩) ?_
      refine Exec.run tyOk 400 rfl ?_
      refine Exec.ld tyOk (x := .string ⟨⟨(cond ((((decide ((0 : Int) < x6))) == true) && (((!x12)) == false)) (atI x1 ((IntKind.i64.wrap (x6 - (1 : Int))))) default)⟩⟩) rfl rfl (fun gg0 gg1 => (hd14 (gd2_of gg0 gg1))) rfl rfl ?_
      refine Exec.run tyOk 400 rfl ?_
      rcases cond_some hF with ⟨hb, hF⟩ | ⟨hb, hF⟩
      · skip
        refine Exec.ifT rfl hb ?_
        refine Exec.run tyOk 400 rfl ?_
        obtain rfl := some_inj hF
        exact Exec.ret tyOk rfl rfl rfl
      · skip
        refine Exec.ifF rfl hb ?_
        refine Exec.run tyOk 400 rfl ?_
        exact Exec.round [(0, .v (.slice a2 ((x1).length) (k2))), (5, .v (.slice a2 ((x1).length) (k2))), (6, .v (.int .i64 ((((x1).length : Nat) : Int)))), (7, .v (.int .i64 ((IntKind.i64.wrap (x6 + (1 : Int))))))] ⟨rfl, rfl, rfl, rfl, trivial⟩ ⟨n7, Nat.lt_succ_self _, (IntKind.i64.wrap (x6 + (1 : Int))), rfl, rfl, h9, hF⟩
    · skip
      refine Exec.ifF rfl hb ?_
      refine Exec.run tyOk 400 rfl ?_
      exact Exec.round [(0, .v (.slice a2 ((x1).length) (k2)))] ⟨rfl, trivial⟩ ⟨rfl, rfl, h9, hF⟩

def F_slices_BinarySearch_string_string_L1 (x1 : List Str) (x3 : Str) (J5 : Int → Option (Int × Bool)) : Nat → Int → Int → Option (Int × Bool)
  | 0, _, _ => none
  | n16 + 1, x14, x15 => (cond (decide (x14 < x15)) (req (0 ≤ (1 : Int)) (req (0 ≤ (IntKind.i64.wrap (shrI .u64 (IntKind.u64.wrap (IntKind.i64.wrap (x14 + x15))) (1 : Int))) ∧ (IntKind.i64.wrap (shrI .u64 (IntKind.u64.wrap (IntKind.i64.wrap (x14 + x15))) (1 : Int))) < ((x1).length : Int)) (bnd (F_cmp_Less_string ((atI x1 ((IntKind.i64.wrap (shrI .u64 (IntKind.u64.wrap (IntKind.i64.wrap (x14 + x15))) (1 : Int)))))) x3) fun x22 => (cond x22 (F_slices_BinarySearch_string_string_L1 x1 x3 J5 n16 ((IntKind.i64.wrap ((IntKind.i64.wrap (shrI .u64 (IntKind.u64.wrap (IntKind.i64.wrap (x14 + x15))) (1 : Int))) + (1 : Int)))) x15) (F_slices_BinarySearch_string_string_L1 x1 x3 J5 n16 x14 ((IntKind.i64.wrap (shrI .u64 (IntKind.u64.wrap (IntKind.i64.wrap (x14 + x15))) (1 : Int))))))))) (J5 x14))

def F_slices_BinarySearch_string_string (x1 : List Str) (x3 : Str) : Option (Int × Bool) :=
  (jn (fun (x4 : Int) => (req ((((decide (x4 < (((x1).length : Nat) : Int)))) == true) = true → 0 ≤ x4 ∧ x4 < ((x1).length : Int)) (req ((((((cond (((decide (x4 < (((x1).length : Nat) : Int)))) == true) (atI x1 x4) default) == x3)) == false) && (((decide (x4 < (((x1).length : Nat) : Int)))) == true)) = true → 0 ≤ x4 ∧ x4 < ((x1).length : Int)) (bnd (gcall (((((cond (((decide (x4 < (((x1).length : Nat) : Int)))) == true) (atI x1 x4) default) == x3)) == false) && (((decide (x4 < (((x1).length : Nat) : Int)))) == true)) (F_slices_isNaN_string ((cond (((((cond (((decide (x4 < (((x1).length : Nat) : Int)))) == true) (atI x1 x4) default) == x3)) == false) && (((decide (x4 < (((x1).length : Nat) : Int)))) == true)) (atI x1 x4) default)))) fun x12 => (bnd (gcall (((x12) == true) && (((((cond (((decide (x4 < (((x1).length : Nat) : Int)))) == true) (atI x1 x4) default) == x3)) == false) && (((decide (x4 < (((x1).length : Nat) : Int)))) == true))) (F_slices_isNaN_string x3)) fun x13 => (some (x4, ((decide (x4 < (((x1).length : Nat) : Int))) && (((cond (((decide (x4 < (((x1).length : Nat) : Int)))) == true) (atI x1 x4) default) == x3) || (x12 && x13)))))))))) (fun J5 => (F_slices_BinarySearch_string_string_L1 x1 x3 J5 (1000000 : Nat) ((0 : Int)) ((((x1).length : Nat) : Int)))))

set_option maxRecDepth 100000 in
theorem W_slices_BinarySearch_string_string {V : View} (x1 : List Str) (x3 : Str) {a2 : Option Addr} {k2 : Nat} (h2 : SlAt cStr V a2 k2 x1) {r : Int × Bool} (hF : F_slices_BinarySearch_string_string x1 x3 = some r) :
    Spec Try.prog 47 [.slice a2 ((x1).length) (k2), .string ⟨⟨x3⟩⟩] V (fun _ v => v = .tuple ⟨[.int .i64 (r.1), .bool (r.2)]⟩) := by
  unfold F_slices_BinarySearch_string_string at hF
  refine Spec.enter (T := tyT) Try.func47 rfl (by kernel_rfl) rfl rfl rfl ?_
  refine Exec.run tyOk 18 rfl ?_
  obtain ⟨J5, hJ5, hF⟩ := jn_some hF
  refine Exec.seam (fun L' V' M' => ∃ (x4 : Int), L' = [(0, .v (.slice a2 ((x1).length) (k2))), (1, .v (.string ⟨⟨x3⟩⟩)), (6, .v (.int .i64 ((((x1).length : Nat) : Int)))), (7, .v (.int .i64 (x4)))] ∧ M' = [] ∧ SlAt cStr V' a2 k2 x1 ∧ J5 x4 = some r) rfl ?_ ?_
  · rintro L' V6 M' ⟨x4, rfl, rfl, h7, hF⟩
    subst hJ5
    refine Exec.run tyOk 400 rfl ?_
    obtain ⟨q8, hF⟩ := req_some hF
    obtain ⟨c9, hr9, hd9⟩ := SlAt.gget (((decide (x4 < (((x1).length : Nat) : Int)))) == true) h7 q8
    obtain rfl := hr9
    refine Exec.ia tyOk rfl rfl (fun gg0 => ⟨(q8 (gd1_of gg0)).1, (q8 (gd1_of gg0)).2, (hd9 (gd1_of gg0)).some⟩) ?_
    refine Exec.run tyOk 400 rfl ?_
    refine Exec.ld tyOk (x := .string ⟨⟨(cond (((decide (x4 < (((x1).length : Nat) : Int)))) == true) (atI x1 x4) default)⟩⟩) rfl rfl (fun gg0 => (hd9 (gd1_of gg0))) rfl rfl ?_
    refine Exec.run tyOk 400 rfl ?_
    obtain ⟨q10, hF⟩ := req_some hF
    obtain ⟨c11, hr11, hd11⟩ := SlAt.gget (((((cond (((decide (x4 < (((x1).length : Nat) : Int)))) == true) (atI x1 x4) default) == x3)) == false) && (((decide (x4 < (((x1).length : Nat) : Int)))) == true)) h7 q10
    obtain rfl := hr11
    refine Exec.ia tyOk rfl rfl (fun gg0 gg1 => ⟨(q10 (gd2_of gg0 gg1)).1, (q10 (gd2_of gg0 gg1)).2, (hd11 (gd2_of gg0 gg1)).some⟩) ?_
    refine Exec.run tyOk 400 rfl ?_
    refine Exec.ld tyOk (x := .string ⟨⟨(cond (((((cond (((decide (x4 < (((x1).length : Nat) : Int)))) == true) (atI x1 x4) default) == x3)) == false) && (((decide (x4 < (((x1).length : Nat) : Int)))) == true)) (atI x1 x4) default)⟩⟩) rfl rfl (fun gg0 gg1 => (hd11 (gd2_of gg0 gg1))) rfl rfl ?_
    refine Exec.run tyOk 400 rfl ?_
    obtain ⟨x12, hx12, hF⟩ := bnd_some hF
    refine Exec.callS (.bool (x12)) rfl rfl (fun gg0 gg1 => W_slices_isNaN_string ((cond (((((cond (((decide (x4 < (((x1).length : Nat) : Int)))) == true) (atI x1 x4) default) == x3)) == false) && (((decide (x4 < (((x1).length : Nat) : Int)))) == true)) (atI x1 x4) default))  (gcall_some hx12 (gd2_of gg0 gg1))) ?_
    refine Exec.run tyOk 400 rfl ?_
    obtain ⟨x13, hx13, hF⟩ := bnd_some hF
    refine Exec.callS (.bool (x13)) rfl rfl (fun gg0 gg1 gg2 => W_slices_isNaN_string x3  (gcall_some hx13 (gd3_of gg0 gg1 gg2))) ?_
    refine Exec.run tyOk 400 rfl ?_
    obtain rfl := some_inj hF
    exact Exec.ret tyOk rfl rfl rfl
  · skip
    refine Exec.run tyOk 400 rfl ?_
    refine Exec.loop (fun n16 L' V' M' => ∃ (x14 : Int) (x15 : Int), L' = [(0, .v (.slice a2 ((x1).length) (k2))), (1, .v (.string ⟨⟨x3⟩⟩)), (6, .v (.int .i64 ((((x1).length : Nat) : Int)))), (7, .v (.int .i64 (x14))), (8, .v (.int .i64 (x15)))] ∧ M' = [] ∧ SlAt cStr V' a2 k2 x1 ∧ F_slices_BinarySearch_string_string_L1 x1 x3 J5 n16 x14 x15 = some r) ⟨(1000000 : Nat), [(0, .v (.slice a2 ((x1).length) (k2))), (1, .v (.string ⟨⟨x3⟩⟩)), (6, .v (.int .i64 ((((x1).length : Nat) : Int)))), (7, .v (.int .i64 ((0 : Int)))), (8, .v (.int .i64 ((((x1).length : Nat) : Int))))], ⟨rfl, rfl, rfl, rfl, rfl, trivial⟩, (0 : Int), (((x1).length : Nat) : Int), rfl, rfl, h2, hF⟩ ?_
    rintro n16 L' V17 M' ⟨x14, x15, rfl, rfl, h18, hF⟩
    rcases n16 with _ | n16
    · exact absurd hF (by simp [F_slices_BinarySearch_string_string_L1])
    rw [F_slices_BinarySearch_string_string_L1] at hF
    refine Exec.run tyOk 400 rfl ?_
    rcases cond_some hF with ⟨hb, hF⟩ | ⟨hb, hF⟩
    · skip
      refine Exec.ifT rfl hb ?_
      refine Exec.run tyOk 400 rfl ?_
      obtain ⟨q19, hF⟩ := req_some hF
      refine Exec.ari rfl rfl q19 ?_
      refine Exec.run tyOk 400 rfl ?_
      obtain ⟨q20, hF⟩ := req_some hF
      obtain ⟨c21, hr21, hd21⟩ := SlAt.get h18 q20
      obtain rfl := hr21
      refine Exec.ia tyOk rfl rfl ⟨q20.1, q20.2, hd21.some⟩ ?_
      refine Exec.run tyOk 400 rfl ?_
      refine Exec.ld tyOk (x := .string ⟨⟨(atI x1 ((IntKind.i64.wrap (shrI .u64 (IntKind.u64.wrap (IntKind.i64.wrap (x14 + x15))) (1 : Int)))))⟩⟩) rfl rfl hd21 rfl rfl ?_
      refine Exec.run tyOk 400 rfl ?_
      obtain ⟨x22, hx22, hF⟩ := bnd_some hF
      refine Exec.callS (.bool (x22)) rfl rfl (W_cmp_Less_string ((atI x1 ((IntKind.i64.wrap (shrI .u64 (IntKind.u64.wrap (IntKind.i64.wrap (x14 + x15))) (1 : Int)))))) x3  hx22) ?_
      refine Exec.run tyOk 400 rfl ?_
      rcases cond_some hF with ⟨hb, hF⟩ | ⟨hb, hF⟩
      · skip
        refine Exec.ifT rfl hb ?_
        refine Exec.run tyOk 400 rfl ?_
        exact Exec.round [(0, .v (.slice a2 ((x1).length) (k2))), (1, .v (.string ⟨⟨x3⟩⟩)), (6, .v (.int .i64 ((((x1).length : Nat) : Int)))), (7, .v (.int .i64 ((IntKind.i64.wrap ((IntKind.i64.wrap (shrI .u64 (IntKind.u64.wrap (IntKind.i64.wrap (x14 + x15))) (1 : Int))) + (1 : Int)))))), (8, .v (.int .i64 (x15)))] ⟨rfl, rfl, rfl, rfl, rfl, trivial⟩ ⟨n16, Nat.lt_succ_self _, (IntKind.i64.wrap ((IntKind.i64.wrap (shrI .u64 (IntKind.u64.wrap (IntKind.i64.wrap (x14 + x15))) (1 : Int))) + (1 : Int))), x15, rfl, rfl, h18, hF⟩
      · skip
        refine Exec.ifF rfl hb ?_
        refine Exec.run tyOk 400 rfl ?_
        exact Exec.round [(0, .v (.slice a2 ((x1).length) (k2))), (1, .v (.string ⟨⟨x3⟩⟩)), (6, .v (.int .i64 ((((x1).length : Nat) : Int)))), (7, .v (.int .i64 (x14))), (8, .v (.int .i64 ((IntKind.i64.wrap (shrI .u64 (IntKind.u64.wrap (IntKind.i64.wrap (x14 + x15))) (1 : Int))))))] ⟨rfl, rfl, rfl, rfl, rfl, trivial⟩ ⟨n16, Nat.lt_succ_self _, x14, (IntKind.i64.wrap (shrI .u64 (IntKind.u64.wrap (IntKind.i64.wrap (x14 + x15))) (1 : Int))), rfl, rfl, h18, hF⟩
    · skip
      refine Exec.ifF rfl hb ?_
      refine Exec.run tyOk 400 rfl ?_
      exact Exec.round [(0, .v (.slice a2 ((x1).length) (k2))), (1, .v (.string ⟨⟨x3⟩⟩)), (6, .v (.int .i64 ((((x1).length : Nat) : Int)))), (7, .v (.int .i64 (x14)))] ⟨rfl, rfl, rfl, rfl, trivial⟩ ⟨x14, rfl, rfl, h18, hF⟩

def F_clockworkref19_Valid (x1 : TFootprint) : Option Bool :=
  (cond x1.All (some (((((x1.Reads).length : Nat) : Int) == (0 : Int)) && ((((x1.Writes).length : Nat) : Int) == (0 : Int)))) (bnd (gcall ((((decide ((((x1.Reads).length : Nat) : Int) ≤ (64 : Int))) && (decide ((((x1.Writes).length : Nat) : Int) ≤ (64 : Int))))) == true) (F_clockworkref04_Ascending x1.Reads)) fun x4 => (bnd (gcall (((((decide ((((x1.Reads).length : Nat) : Int) ≤ (64 : Int))) && (decide ((((x1.Writes).length : Nat) : Int) ≤ (64 : Int)))) && x4)) == true) (F_clockworkref04_Ascending x1.Writes)) fun x5 => (some ((((decide ((((x1.Reads).length : Nat) : Int) ≤ (64 : Int))) && (decide ((((x1.Writes).length : Nat) : Int) ≤ (64 : Int)))) && x4) && x5)))))

set_option maxRecDepth 100000 in
theorem W_clockworkref19_Valid {V : View} (x1 : TFootprint) {a2 : Option Addr} {k2 : Nat} {a3 : Option Addr} {k3 : Nat} (h2 : SlAt cStr V a2 k2 x1.Reads) (h3 : SlAt cStr V a3 k3 x1.Writes) {r : Bool} (hF : F_clockworkref19_Valid x1 = some r) :
    Spec Try.prog 48 [.agg ⟨[.bool (x1.All), .slice a2 ((x1.Reads).length) (k2), .slice a3 ((x1.Writes).length) (k3)]⟩] V (fun _ v => v = .bool (r)) := by
  unfold F_clockworkref19_Valid at hF
  refine Spec.enter (T := tyT) Try.func48 rfl (by kernel_rfl) rfl rfl rfl ?_
  refine Exec.run tyOk 400 rfl ?_
  rcases cond_some hF with ⟨hb, hF⟩ | ⟨hb, hF⟩
  · skip
    refine Exec.ifT rfl hb ?_
    refine Exec.run tyOk 400 rfl ?_
    obtain rfl := some_inj hF
    exact Exec.ret tyOk rfl rfl rfl
  · skip
    refine Exec.ifF rfl hb ?_
    refine Exec.run tyOk 400 rfl ?_
    obtain ⟨x4, hx4, hF⟩ := bnd_some hF
    refine Exec.callS (.bool (x4)) rfl rfl (fun gg0 => W_clockworkref04_Ascending x1.Reads h2 (gcall_some hx4 (gd1_of gg0))) ?_
    refine Exec.run tyOk 400 rfl ?_
    obtain ⟨x5, hx5, hF⟩ := bnd_some hF
    refine Exec.callS (.bool (x5)) rfl rfl (fun gg0 => W_clockworkref04_Ascending x1.Writes h3 (gcall_some hx5 (gd1_of gg0))) ?_
    refine Exec.run tyOk 400 rfl ?_
    obtain rfl := some_inj hF
    exact Exec.ret tyOk rfl rfl rfl

def F_clockworkref26_norm (x1 : TFootprint) : Option TFootprint :=
  (bnd (F_clockworkref19_Valid x1) fun x4 => (cond (!x4) (some (⟨true, ([] : List Str), ([] : List Str)⟩ : TFootprint)) (some x1)))

set_option maxRecDepth 100000 in
theorem W_clockworkref26_norm {V : View} (x1 : TFootprint) {a2 : Option Addr} {k2 : Nat} {a3 : Option Addr} {k3 : Nat} (h2 : SlAt cStr V a2 k2 x1.Reads) (h3 : SlAt cStr V a3 k3 x1.Writes) {r : TFootprint} (hF : F_clockworkref26_norm x1 = some r) :
    Spec Try.prog 50 [.agg ⟨[.bool (x1.All), .slice a2 ((x1.Reads).length) (k2), .slice a3 ((x1.Writes).length) (k3)]⟩] V (fun V' v => ∃ (a5 : Option Addr) (k5 : Nat) (a6 : Option Addr) (k6 : Nat), v = .agg ⟨[.bool (r.All), .slice a5 ((r.Reads).length) (k5), .slice a6 ((r.Writes).length) (k6)]⟩ ∧ SlAt cStr V' a5 k5 r.Reads ∧ SlAt cStr V' a6 k6 r.Writes) := by
  unfold F_clockworkref26_norm at hF
  refine Spec.enter (T := tyT) Try.func50 rfl (by kernel_rfl) rfl rfl rfl ?_
  refine Exec.run tyOk 400 rfl ?_
  obtain ⟨x4, hx4, hF⟩ := bnd_some hF
  refine Exec.callS (.bool (x4)) rfl rfl (W_clockworkref19_Valid x1 h2 h3 hx4) ?_
  refine Exec.run tyOk 400 rfl ?_
  rcases cond_some hF with ⟨hb, hF⟩ | ⟨hb, hF⟩
  · skip
    refine Exec.ifT rfl hb ?_
    refine Exec.run tyOk 400 rfl ?_
    obtain rfl := some_inj hF
    exact Exec.ret tyOk rfl rfl ⟨_, _, _, _, rfl, SlAt.nil, SlAt.nil⟩
  · skip
    refine Exec.ifF rfl hb ?_
    refine Exec.run tyOk 400 rfl ?_
    obtain rfl := some_inj hF
    exact Exec.ret tyOk rfl rfl ⟨_, _, _, _, rfl, h2, h3⟩

def F_mvsched_depends (x1 : TFootprint) (x4 : TFootprint) : Option Bool :=
  (cond x4.All (some true) (cond x1.All (some (decide ((0 : Int) < (((x4.Reads).length : Nat) : Int)))) (bnd (F_slices_ContainsFunc_string_string x1.Writes (fun y0 => F_mvsched_depends_1 y0 x4)) fun x12 => (some x12))))

set_option maxRecDepth 100000 in
theorem W_mvsched_depends {V : View} (x1 : TFootprint) (x4 : TFootprint) {a2 : Option Addr} {k2 : Nat} {a3 : Option Addr} {k3 : Nat} {a5 : Option Addr} {k5 : Nat} {a6 : Option Addr} {k6 : Nat} (h2 : SlAt cStr V a2 k2 x1.Reads) (h3 : SlAt cStr V a3 k3 x1.Writes) (h5 : SlAt cStr V a5 k5 x4.Reads) (h6 : SlAt cStr V a6 k6 x4.Writes) {r : Bool} (hF : F_mvsched_depends x1 x4 = some r) :
    Spec Try.prog 34 [.agg ⟨[.bool (x1.All), .slice a2 ((x1.Reads).length) (k2), .slice a3 ((x1.Writes).length) (k3)]⟩, .agg ⟨[.bool (x4.All), .slice a5 ((x4.Reads).length) (k5), .slice a6 ((x4.Writes).length) (k6)]⟩] V (fun _ v => v = .bool (r)) := by
  unfold F_mvsched_depends at hF
  refine Spec.enter (T := tyT) Try.func34 rfl (by kernel_rfl) rfl rfl rfl ?_
  refine Exec.run tyOk 400 rfl ?_
  rcases cond_some hF with ⟨hb, hF⟩ | ⟨hb, hF⟩
  · skip
    refine Exec.ifT rfl hb ?_
    refine Exec.run tyOk 400 rfl ?_
    obtain rfl := some_inj hF
    exact Exec.ret tyOk rfl rfl rfl
  · skip
    refine Exec.ifF rfl hb ?_
    refine Exec.run tyOk 400 rfl ?_
    rcases cond_some hF with ⟨hb, hF⟩ | ⟨hb, hF⟩
    · skip
      refine Exec.ifT rfl hb ?_
      refine Exec.run tyOk 400 rfl ?_
      obtain rfl := some_inj hF
      exact Exec.ret tyOk rfl rfl rfl
    · skip
      refine Exec.ifF rfl hb ?_
      refine Exec.run tyOk 400 rfl ?_
      refine Exec.openB 1 rfl rfl rfl rfl (fun _ => rfl) (fun _ => rfl) (fun V7 b7 hv7 hd7 => ?_)
      have h8 := SlAt.mono h2 hv7
      have h9 := SlAt.mono h3 hv7
      have h10 := SlAt.mono h5 hv7
      have h11 := SlAt.mono h6 hv7
      refine Exec.mkf rfl rfl ?_
      refine Exec.run tyOk 400 rfl ?_
      obtain ⟨x12, hx12, hF⟩ := bnd_some hF
      refine Exec.callS (.bool (x12)) rfl rfl (W_slices_ContainsFunc_string_string x1.Writes (fun y0 => F_mvsched_depends_1 y0 x4) h9 (fun V' hv y0 r hr => W_mvsched_depends_1 y0 x4 (SlAt.mono h10 hv) (SlAt.mono h11 hv) (RdAt.mono hd7 hv) hr) hx12) ?_
      refine Exec.run tyOk 400 rfl ?_
      obtain rfl := some_inj hF
      exact Exec.ret tyOk rfl rfl rfl

def F_footprint_Valid (x1 : TFootprint) : Option Bool :=
  (cond x1.All (some (((((x1.Reads).length : Nat) : Int) == (0 : Int)) && ((((x1.Writes).length : Nat) : Int) == (0 : Int)))) (bnd (F_footprint_ascending x1.Reads) fun x4 => (bnd (gcall ((x4) == true) (F_footprint_ascending x1.Writes)) fun x5 => (some (x4 && x5)))))

set_option maxRecDepth 100000 in
theorem W_footprint_Valid {V : View} (x1 : TFootprint) {a2 : Option Addr} {k2 : Nat} {a3 : Option Addr} {k3 : Nat} (h2 : SlAt cStr V a2 k2 x1.Reads) (h3 : SlAt cStr V a3 k3 x1.Writes) {r : Bool} (hF : F_footprint_Valid x1 = some r) :
    Spec Try.prog 39 [.agg ⟨[.bool (x1.All), .slice a2 ((x1.Reads).length) (k2), .slice a3 ((x1.Writes).length) (k3)]⟩] V (fun _ v => v = .bool (r)) := by
  unfold F_footprint_Valid at hF
  refine Spec.enter (T := tyT) Try.func39 rfl (by kernel_rfl) rfl rfl rfl ?_
  refine Exec.run tyOk 400 rfl ?_
  rcases cond_some hF with ⟨hb, hF⟩ | ⟨hb, hF⟩
  · skip
    refine Exec.ifT rfl hb ?_
    refine Exec.run tyOk 400 rfl ?_
    obtain rfl := some_inj hF
    exact Exec.ret tyOk rfl rfl rfl
  · skip
    refine Exec.ifF rfl hb ?_
    refine Exec.run tyOk 400 rfl ?_
    obtain ⟨x4, hx4, hF⟩ := bnd_some hF
    refine Exec.callS (.bool (x4)) rfl rfl (W_footprint_ascending x1.Reads h2 hx4) ?_
    refine Exec.run tyOk 400 rfl ?_
    obtain ⟨x5, hx5, hF⟩ := bnd_some hF
    refine Exec.callS (.bool (x5)) rfl rfl (fun gg0 => W_footprint_ascending x1.Writes h3 (gcall_some hx5 (gd1_of gg0))) ?_
    refine Exec.run tyOk 400 rfl ?_
    obtain rfl := some_inj hF
    exact Exec.ret tyOk rfl rfl rfl

end Go.Proofs.Ytfinjeaoicfdeaa
