/-
  Functions of the program as their counterparts say them (printed by a program).
  Conditions: none.
-/
import Derived.Test.YtdkakeiccefbgaaHb
set_option linter.all false
namespace Go.Proofs.Ytdkakeiccefbgaa

def F_clockworkref29_Encode_L1 (x1 : TPlacement) (J7 : Str → Option Str) : Nat → Str → Int → Option Str
  | 0, _, _ => none
  | n11 + 1, x9, x10 => (cond (decide (x10 < (((x1.Parts).length : Nat) : Int))) (req (0 ≤ x10 ∧ x10 < ((x1.Parts).length : Int)) (bnd (F_clockworkref02_Int ((atI x1.Parts x10).Id)) fun x16 => (req ((x9).length + (x16).length ≤ 9223372036854775807) (bnd (F_clockworkref02_Text ((atI x1.Parts x10).From)) fun x18 => (req (((x9 ++ x16)).length + (x18).length ≤ 9223372036854775807) (bnd (F_clockworkref02_Int ((atI x1.Parts x10).Node)) fun x20 => (req ((((x9 ++ x16) ++ x18)).length + (x20).length ≤ 9223372036854775807) (bnd (F_clockworkref02_Int ((atI x1.Parts x10).Dest)) fun x22 => (req (((((x9 ++ x16) ++ x18) ++ x20)).length + (x22).length ≤ 9223372036854775807) (bnd (F_clockworkref02_Text ((atI x1.Parts x10).Done)) fun x24 => (req ((((((x9 ++ x16) ++ x18) ++ x20) ++ x22)).length + (x24).length ≤ 9223372036854775807) (F_clockworkref29_Encode_L1 x1 J7 n11 ((((((x9 ++ x16) ++ x18) ++ x20) ++ x22) ++ x24)) ((IntKind.i64.wrap (x10 + (1 : Int)))))))))))))))) (J7 x9))

def F_clockworkref29_Encode (x1 : TPlacement) : Option Str :=
  (bnd (F_clockworkref02_Int x1.Version) fun x3 => (bnd (F_clockworkref02_Uint ((IntKind.u64.wrap (((x1.Parts).length : Nat) : Int)))) fun x4 => (req ((x3).length + (x4).length ≤ 9223372036854775807) (jn (fun (x6 : Str) => (some x6)) (fun J7 => (F_clockworkref29_Encode_L1 x1 J7 (((((x1.Parts).length : Nat) : Int)).toNat + 1) ((x3 ++ x4)) ((0 : Int))))))))

set_option maxRecDepth 100000 in
theorem W_clockworkref29_Encode {V : View} (x1 : TPlacement) {a2 : Option Addr} {k2 : Nat} (h2 : SlAt cTPart V a2 k2 x1.Parts) {r : Str} (hF : F_clockworkref29_Encode x1 = some r) :
    Spec Try.prog 35 [.agg ⟨[.int .i64 (x1.Version), .slice a2 ((x1.Parts).length) (k2)]⟩] V (fun _ v => v = .string ⟨⟨r⟩⟩) := by
  unfold F_clockworkref29_Encode at hF
  refine Spec.enter (T := tyT) Try.func35 rfl (by kernel_rfl) rfl rfl rfl ?_
  refine Exec.run tyOk 400 rfl ?_
  refine Exec.draws tyOk [(0, true), (1, true), (3, true), (4, true), (5, true), (6, true), (2, false), (7, false), (8, false), (9, false)] rfl (by kernel_rfl) ?_
  refine Exec.run tyOk 400 rfl ?_
  obtain ⟨x3, hx3, hF⟩ := bnd_some hF
  refine Exec.callS (.string ⟨⟨x3⟩⟩) rfl rfl (W_clockworkref02_Int x1.Version  hx3) ?_
  refine Exec.run tyOk 400 rfl ?_
  obtain ⟨x4, hx4, hF⟩ := bnd_some hF
  refine Exec.callS (.string ⟨⟨x4⟩⟩) rfl rfl (W_clockworkref02_Uint ((IntKind.u64.wrap (((x1.Parts).length : Nat) : Int)))  hx4) ?_
  refine Exec.run tyOk 400 rfl ?_
  obtain ⟨q5, hF⟩ := req_some hF
  refine Exec.cat rfl rfl q5 ?_
  refine Exec.run tyOk 10 rfl ?_
  obtain ⟨J7, hJ7, hF⟩ := jn_some hF
  refine Exec.seam (fun L' V' M' => ∃ (x6 : Str), L' = [(3, .v (.string ⟨⟨x6⟩⟩))] ∧ M' = [] ∧ J7 x6 = some r) rfl ?_ ?_
  · rintro L' V8 M' ⟨x6, rfl, rfl, hF⟩
    subst hJ7
    refine Exec.run tyOk 400 rfl ?_
    obtain rfl := some_inj hF
    exact Exec.ret tyOk rfl rfl rfl
  · skip
    refine Exec.run tyOk 400 rfl ?_
    refine Exec.loop (fun n11 L' V' M' => ∃ (x9 : Str) (x10 : Int), L' = [(1, .ptr 0 0), (3, .v (.string ⟨⟨x9⟩⟩)), (4, .v (.int .i64 (x10)))] ∧ M' = [.blk [.v (.int .i64 (x1.Version)), .v (.slice a2 ((x1.Parts).length) (k2))] 24] ∧ SlAt cTPart V' a2 k2 x1.Parts ∧ F_clockworkref29_Encode_L1 x1 J7 n11 x9 x10 = some r) ⟨(((((x1.Parts).length : Nat) : Int)).toNat + 1), [(1, .ptr 0 0), (3, .v (.string ⟨⟨(x3 ++ x4)⟩⟩)), (4, .v (.int .i64 ((0 : Int))))], ⟨rfl, rfl, rfl, trivial⟩, (x3 ++ x4), (0 : Int), rfl, rfl, h2, hF⟩ ?_
    rintro n11 L' V12 M' ⟨x9, x10, rfl, rfl, h13, hF⟩
    rcases n11 with _ | n11
    · exact absurd hF (by simp [F_clockworkref29_Encode_L1])
    rw [F_clockworkref29_Encode_L1] at hF
    refine Exec.run tyOk 400 rfl ?_
    rcases cond_some hF with ⟨hb, hF⟩ | ⟨hb, hF⟩
    · skip
      refine Exec.ifT rfl hb ?_
      refine Exec.run tyOk 400 rfl ?_
      obtain ⟨q14, hF⟩ := req_some hF
      obtain ⟨c15, hr15, hd15⟩ := SlAt.get h13 q14
      obtain rfl := hr15
      refine Exec.ia tyOk rfl rfl ⟨q14.1, q14.2, hd15.some⟩ ?_
      refine Exec.run tyOk 400 rfl ?_
      refine Exec.ld tyOk (x := .agg ⟨[.int .i64 ((atI x1.Parts x10).Id), .string ⟨⟨(atI x1.Parts x10).From⟩⟩, .int .i64 ((atI x1.Parts x10).Node), .int .i64 ((atI x1.Parts x10).Dest), .string ⟨⟨(atI x1.Parts x10).Done⟩⟩]⟩) rfl rfl hd15 rfl rfl ?_
      refine Exec.run tyOk 400 rfl ?_
      refine Exec.draws tyOk [(0, true), (1, true), (2, true), (5, true), (6, true), (9, true), (10, true), (13, true), (14, true), (17, true), (18, true), (3, false), (4, true), (7, false), (8, true), (11, false), (12, true), (15, false), (16, true), (19, false), (20, false), (21, false)] rfl (by kernel_rfl) ?_
      refine Exec.run tyOk 400 rfl ?_
      obtain ⟨x16, hx16, hF⟩ := bnd_some hF
      refine Exec.callS (.string ⟨⟨x16⟩⟩) rfl rfl (W_clockworkref02_Int ((atI x1.Parts x10).Id)  hx16) ?_
      refine Exec.run tyOk 400 rfl ?_
      obtain ⟨q17, hF⟩ := req_some hF
      refine Exec.fcat rfl rfl rfl q17 ?_
      refine Exec.run tyOk 400 rfl ?_
      obtain ⟨x18, hx18, hF⟩ := bnd_some hF
      refine Exec.callS (.string ⟨⟨x18⟩⟩) rfl rfl (W_clockworkref02_Text ((atI x1.Parts x10).From)  hx18) ?_
      refine Exec.run tyOk 400 rfl ?_
      obtain ⟨q19, hF⟩ := req_some hF
      refine Exec.fcat rfl rfl rfl q19 ?_
      refine Exec.run tyOk 400 rfl ?_
      obtain ⟨x20, hx20, hF⟩ := bnd_some hF
      refine Exec.callS (.string ⟨⟨x20⟩⟩) rfl rfl (W_clockworkref02_Int ((atI x1.Parts x10).Node)  hx20) ?_
      refine Exec.run tyOk 400 rfl ?_
      obtain ⟨q21, hF⟩ := req_some hF
      refine Exec.fcat rfl rfl rfl q21 ?_
      refine Exec.run tyOk 400 rfl ?_
      obtain ⟨x22, hx22, hF⟩ := bnd_some hF
      refine Exec.callS (.string ⟨⟨x22⟩⟩) rfl rfl (W_clockworkref02_Int ((atI x1.Parts x10).Dest)  hx22) ?_
      refine Exec.run tyOk 400 rfl ?_
      obtain ⟨q23, hF⟩ := req_some hF
      refine Exec.fcat rfl rfl rfl q23 ?_
      refine Exec.run tyOk 400 rfl ?_
      obtain ⟨x24, hx24, hF⟩ := bnd_some hF
      refine Exec.callS (.string ⟨⟨x24⟩⟩) rfl rfl (W_clockworkref02_Text ((atI x1.Parts x10).Done)  hx24) ?_
      refine Exec.run tyOk 400 rfl ?_
      obtain ⟨q25, hF⟩ := req_some hF
      refine Exec.cat rfl rfl q25 ?_
      refine Exec.run tyOk 400 rfl ?_
      refine Exec.cut 1 [(1, .ptr 0 0), (3, .v (.string ⟨⟨(((((x9 ++ x16) ++ x18) ++ x20) ++ x22) ++ x24)⟩⟩)), (4, .v (.int .i64 ((IntKind.i64.wrap (x10 + (1 : Int))))))] (M' := [.blk [.v (.int .i64 (x1.Version)), .v (.slice a2 ((x1.Parts).length) (k2))] 24]) rfl ⟨rfl, rfl, rfl, trivial⟩ rfl rfl rfl ?_
      exact Exec.round [(1, .ptr 0 0), (3, .v (.string ⟨⟨(((((x9 ++ x16) ++ x18) ++ x20) ++ x22) ++ x24)⟩⟩)), (4, .v (.int .i64 ((IntKind.i64.wrap (x10 + (1 : Int))))))] ⟨rfl, rfl, rfl, trivial⟩ ⟨n11, Nat.lt_succ_self _, (((((x9 ++ x16) ++ x18) ++ x20) ++ x22) ++ x24), (IntKind.i64.wrap (x10 + (1 : Int))), rfl, rfl, h13, hF⟩
    · skip
      refine Exec.ifF rfl hb ?_
      refine Exec.run tyOk 400 rfl ?_
      refine Exec.cut 0 [(3, .v (.string ⟨⟨x9⟩⟩))] (M' := []) rfl ⟨rfl, trivial⟩ rfl rfl rfl ?_
      exact Exec.round [(3, .v (.string ⟨⟨x9⟩⟩))] ⟨rfl, trivial⟩ ⟨x9, rfl, rfl, hF⟩

def F_wire_TakeCount (x1 : Str) (x2 : Int) (x3 : Int) : Option (Int × Int × Int) :=
  (bnd (F_wire_TakeUint x1 x2) fun x4 => (cond (x4.2.2 != (0 : Int)) (some ((0 : Int), (0 : Int), x4.2.2)) (cond ((decide (x3 < (0 : Int))) || (decide ((IntKind.u64.wrap x3) < x4.1))) (some ((0 : Int), (0 : Int), (2 : Int))) (cond (decide ((IntKind.u64.wrap (IntKind.i64.wrap (((x1).length : Int) - x4.2.1))) < x4.1)) (some ((0 : Int), (0 : Int), (6 : Int))) (some ((IntKind.i64.wrap x4.1), x4.2.1, (0 : Int)))))))

set_option maxRecDepth 100000 in
theorem W_wire_TakeCount {V : View} (x1 : Str) (x2 : Int) (x3 : Int)   {r : Int × Int × Int} (hF : F_wire_TakeCount x1 x2 x3 = some r) :
    Spec Try.prog 50 [.string ⟨⟨x1⟩⟩, .int .i64 (x2), .int .i64 (x3)] V (fun _ v => v = .tuple ⟨[.int .i64 (r.1), .int .i64 (r.2.1), .int .i64 (r.2.2)]⟩) := by
  unfold F_wire_TakeCount at hF
  refine Spec.enter (T := tyT) Try.func50 rfl (by kernel_rfl) rfl rfl rfl ?_
  refine Exec.run tyOk 400 rfl ?_
  obtain ⟨x4, hx4, hF⟩ := bnd_some hF
  refine Exec.callS (.tuple ⟨[.int .u64 (x4.1), .int .i64 (x4.2.1), .int .i64 (x4.2.2)]⟩) rfl rfl (W_wire_TakeUint x1 x2  hx4) ?_
  refine Exec.run tyOk 400 rfl ?_
  rcases cond_some hF with ⟨hb, hF⟩ | ⟨hb, hF⟩
  · skip
    refine Exec.ifT rfl hb ?_
    refine Exec.run tyOk 400 rfl ?_
    obtain rfl := some_inj hF
    exact Exec.ret tyOk rfl rfl rfl
  · skip
    refine Exec.ifF rfl hb ?_
    refine Exec.run tyOk 400 rfl ?_
    rcases cond_some hF with ⟨hb, hF⟩ | ⟨hb, hF⟩
    · skip
      refine Exec.ifT rfl hb ?_
      refine Exec.run tyOk 400 rfl ?_
      obtain rfl := some_inj hF
      exact Exec.ret tyOk rfl rfl rfl
    · skip
      refine Exec.ifF rfl hb ?_
      refine Exec.run tyOk 400 rfl ?_
      rcases cond_some hF with ⟨hb, hF⟩ | ⟨hb, hF⟩
      · skip
        refine Exec.ifT rfl hb ?_
        refine Exec.run tyOk 400 rfl ?_
        obtain rfl := some_inj hF
        exact Exec.ret tyOk rfl rfl rfl
      · skip
        refine Exec.ifF rfl hb ?_
        refine Exec.run tyOk 400 rfl ?_
        obtain rfl := some_inj hF
        exact Exec.ret tyOk rfl rfl rfl

def F_wire_Int (x1 : Int) : Option Str :=
  (req (0 ≤ (1 : Int)) (req (0 ≤ (63 : Int)) (bnd (F_wire_Uint ((bits .xor .u64 (shlI .u64 (IntKind.u64.wrap x1) (1 : Int)) (IntKind.u64.wrap (shrI .i64 x1 (63 : Int)))))) fun x4 => (some x4))))

set_option maxRecDepth 100000 in
theorem W_wire_Int {V : View} (x1 : Int)   {r : Str} (hF : F_wire_Int x1 = some r) :
    Spec Try.prog 55 [.int .i64 (x1)] V (fun _ v => v = .string ⟨⟨r⟩⟩) := by
  unfold F_wire_Int at hF
  refine Spec.enter (T := tyT) Try.func55 rfl (by kernel_rfl) rfl rfl rfl ?_
  refine Exec.run tyOk 400 rfl ?_
  obtain ⟨q2, hF⟩ := req_some hF
  refine Exec.ari rfl rfl q2 ?_
  refine Exec.run tyOk 400 rfl ?_
  obtain ⟨q3, hF⟩ := req_some hF
  refine Exec.ari rfl rfl q3 ?_
  refine Exec.run tyOk 400 rfl ?_
  obtain ⟨x4, hx4, hF⟩ := bnd_some hF
  refine Exec.callS (.string ⟨⟨x4⟩⟩) rfl rfl (W_wire_Uint ((bits .xor .u64 (shlI .u64 (IntKind.u64.wrap x1) (1 : Int)) (IntKind.u64.wrap (shrI .i64 x1 (63 : Int)))))  hx4) ?_
  refine Exec.run tyOk 400 rfl ?_
  obtain rfl := some_inj hF
  exact Exec.ret tyOk rfl rfl rfl

def F_wire_TakeInt (x1 : Str) (x2 : Int) : Option (Int × Int × Int) :=
  (bnd (F_wire_TakeUint x1 x2) fun x3 => (cond (x3.2.2 != (0 : Int)) (some ((0 : Int), (0 : Int), x3.2.2)) (req (0 ≤ (1 : Int)) (some ((bits .xor .i64 (IntKind.i64.wrap (shrI .u64 x3.1 (1 : Int))) (IntKind.i64.wrap ((0 : Int) - (IntKind.i64.wrap (bits .and .u64 x3.1 (1 : Int)))))), x3.2.1, (0 : Int))))))

set_option maxRecDepth 100000 in
theorem W_wire_TakeInt {V : View} (x1 : Str) (x2 : Int)   {r : Int × Int × Int} (hF : F_wire_TakeInt x1 x2 = some r) :
    Spec Try.prog 67 [.string ⟨⟨x1⟩⟩, .int .i64 (x2)] V (fun _ v => v = .tuple ⟨[.int .i64 (r.1), .int .i64 (r.2.1), .int .i64 (r.2.2)]⟩) := by
  unfold F_wire_TakeInt at hF
  refine Spec.enter (T := tyT) Try.func67 rfl (by kernel_rfl) rfl rfl rfl ?_
  refine Exec.run tyOk 400 rfl ?_
  obtain ⟨x3, hx3, hF⟩ := bnd_some hF
  refine Exec.callS (.tuple ⟨[.int .u64 (x3.1), .int .i64 (x3.2.1), .int .i64 (x3.2.2)]⟩) rfl rfl (W_wire_TakeUint x1 x2  hx3) ?_
  refine Exec.run tyOk 400 rfl ?_
  rcases cond_some hF with ⟨hb, hF⟩ | ⟨hb, hF⟩
  · skip
    refine Exec.ifT rfl hb ?_
    refine Exec.run tyOk 400 rfl ?_
    obtain rfl := some_inj hF
    exact Exec.ret tyOk rfl rfl rfl
  · skip
    refine Exec.ifF rfl hb ?_
    refine Exec.run tyOk 400 rfl ?_
    obtain ⟨q4, hF⟩ := req_some hF
    refine Exec.ari rfl rfl q4 ?_
    refine Exec.run tyOk 400 rfl ?_
    obtain rfl := some_inj hF
    exact Exec.ret tyOk rfl rfl rfl

def F_wire_TakeText (x1 : Str) (x2 : Int) (x3 : Int) : Option (Str × Int × Int) :=
  (bnd (F_wire_TakeCount x1 x2 x3) fun x4 => (cond (x4.2.2 != (0 : Int)) (some (([] : Str), (0 : Int), x4.2.2)) (req (0 ≤ x4.2.1 ∧ x4.2.1 ≤ (IntKind.i64.wrap (x4.2.1 + x4.1)) ∧ (IntKind.i64.wrap (x4.2.1 + x4.1)) ≤ (((x1).length : Nat) : Int)) (some (((x1.take ((IntKind.i64.wrap (x4.2.1 + x4.1))).toNat).drop (x4.2.1).toNat), (IntKind.i64.wrap (x4.2.1 + x4.1)), (0 : Int))))))

set_option maxRecDepth 100000 in
theorem W_wire_TakeText {V : View} (x1 : Str) (x2 : Int) (x3 : Int)   {r : Str × Int × Int} (hF : F_wire_TakeText x1 x2 x3 = some r) :
    Spec Try.prog 69 [.string ⟨⟨x1⟩⟩, .int .i64 (x2), .int .i64 (x3)] V (fun _ v => v = .tuple ⟨[.string ⟨⟨r.1⟩⟩, .int .i64 (r.2.1), .int .i64 (r.2.2)]⟩) := by
  unfold F_wire_TakeText at hF
  refine Spec.enter (T := tyT) Try.func69 rfl (by kernel_rfl) rfl rfl rfl ?_
  refine Exec.run tyOk 400 rfl ?_
  obtain ⟨x4, hx4, hF⟩ := bnd_some hF
  refine Exec.callS (.tuple ⟨[.int .i64 (x4.1), .int .i64 (x4.2.1), .int .i64 (x4.2.2)]⟩) rfl rfl (W_wire_TakeCount x1 x2 x3  hx4) ?_
  refine Exec.run tyOk 400 rfl ?_
  rcases cond_some hF with ⟨hb, hF⟩ | ⟨hb, hF⟩
  · skip
    refine Exec.ifT rfl hb ?_
    refine Exec.run tyOk 400 rfl ?_
    obtain rfl := some_inj hF
    exact Exec.ret tyOk rfl rfl rfl
  · skip
    refine Exec.ifF rfl hb ?_
    refine Exec.run tyOk 400 rfl ?_
    obtain ⟨q5, hF⟩ := req_some hF
    refine Exec.ssl tyOk (r := ((x1.take ((IntKind.i64.wrap (x4.2.1 + x4.1))).toNat).drop (x4.2.1).toNat)) rfl rfl q5 rfl ?_
    refine Exec.run tyOk 400 rfl ?_
    obtain rfl := some_inj hF
    exact Exec.ret tyOk rfl rfl rfl

def F_clockworklaw29_works  : Option Bool :=
  (bnd (F_placement_New ((1 : Int))) fun x1 => (bnd (F_placement_Split x1.1 ((1 : Int)) (([109] : Str)) ((2 : Int))) fun x4 => (bnd (F_placement_Range x4.1 ((1 : Int))) fun x8 => (bnd (F_placement_Split ((⟨0, ([(⟨(1 : Int), [], (1 : Int), (2 : Int), ([103] : Str)⟩ : TPart)] : List TPart)⟩ : TPlacement)) ((1 : Int)) (([107] : Str)) ((2 : Int))) fun x12 => (bnd (F_placement_Merge x4.1 ((1 : Int))) fun x18 => (cond (((((((x1.2 != (0 : Int)) || (x4.2 != (0 : Int))) || (x8.2 != (0 : Int))) || (x12.2 != (19 : Int))) || (x18.2 != (0 : Int))) || ((((x18.1.Parts).length : Nat) : Int) != (1 : Int))) || (x18.1.Version != (2 : Int))) (some false) (bnd (F_placement_Valid x4.1) fun x25 => (bnd (gcall ((x25) == true) (F_placement_Index x4.1 (([109] : Str)))) fun x26 => (bnd (gcall (((x25 && (x26 == (1 : Int)))) == true) (F_placement_Index x4.1 (([108, 122] : Str)))) fun x27 => (bnd (gcall (((((x25 && (x26 == (1 : Int))) && (x27 == (0 : Int))) && ((x8.1.From == []) && ((x8.1.To == ([109] : Str)) && true)))) == true) (F_placement_Owner ((⟨0, ([(⟨(1 : Int), [], (1 : Int), (2 : Int), ([103] : Str)⟩ : TPart)] : List TPart)⟩ : TPlacement)) (([102] : Str)))) fun x28 => (bnd (gcall ((((((x25 && (x26 == (1 : Int))) && (x27 == (0 : Int))) && ((x8.1.From == []) && ((x8.1.To == ([109] : Str)) && true))) && (x28 == (2 : Int)))) == true) (F_placement_Owner ((⟨0, ([(⟨(1 : Int), [], (1 : Int), (2 : Int), ([103] : Str)⟩ : TPart)] : List TPart)⟩ : TPlacement)) (([103] : Str)))) fun x29 => (bnd (gcall (((((((x25 && (x26 == (1 : Int))) && (x27 == (0 : Int))) && ((x8.1.From == []) && ((x8.1.To == ([109] : Str)) && true))) && (x28 == (2 : Int))) && (x29 == (1 : Int)))) == true) (F_placement_Nodes ((⟨0, ([(⟨(1 : Int), [], (1 : Int), (2 : Int), ([103] : Str)⟩ : TPart)] : List TPart)⟩ : TPlacement)))) fun x30 => (bnd (gcall (((((((x25 && (x26 == (1 : Int))) && (x27 == (0 : Int))) && ((x8.1.From == []) && ((x8.1.To == ([109] : Str)) && true))) && (x28 == (2 : Int))) && (x29 == (1 : Int)))) == true) (F_clockworkref23_Ints x30 (([(1 : Int), (2 : Int)] : List Int)))) fun x45 => (some ((((((x25 && (x26 == (1 : Int))) && (x27 == (0 : Int))) && ((x8.1.From == []) && ((x8.1.To == ([109] : Str)) && true))) && (x28 == (2 : Int))) && (x29 == (1 : Int))) && x45)))))))))))))))

set_option maxRecDepth 100000 in
theorem W_clockworklaw29_works {V : View}    {r : Bool} (hF : F_clockworklaw29_works  = some r) :
    Spec Try.prog 12 [] V (fun _ v => v = .bool (r)) := by
  unfold F_clockworklaw29_works at hF
  refine Spec.enter (T := tyT) Try.func12 rfl (by kernel_rfl) rfl rfl rfl ?_
  refine Exec.run tyOk 400 rfl ?_
  obtain ⟨x1, hx1, hF⟩ := bnd_some hF
  refine Exec.call rfl rfl (W_placement_New ((1 : Int))  hx1) ?_
  rintro V3 _ hv3 ⟨a2, k2, rfl, h2⟩
  refine Exec.run tyOk 400 rfl ?_
  obtain ⟨x4, hx4, hF⟩ := bnd_some hF
  refine Exec.call rfl rfl (W_placement_Split x1.1 ((1 : Int)) (([109] : Str)) ((2 : Int)) h2 hx4) ?_
  rintro V6 _ hv6 ⟨a5, k5, rfl, h5⟩
  have h7 := SlAt.mono h2 hv6
  refine Exec.run tyOk 400 rfl ?_
  obtain ⟨x8, hx8, hF⟩ := bnd_some hF
  refine Exec.callS (.tuple ⟨[.agg ⟨[.string ⟨⟨x8.1.From⟩⟩, .string ⟨⟨x8.1.To⟩⟩]⟩, .int .i64 (x8.2)]⟩) rfl rfl (W_placement_Range x4.1 ((1 : Int)) h5 hx8) ?_
  refine Exec.run tyOk 400 rfl ?_
  refine Exec.bsV tyOk rfl rfl rfl rfl rfl (fun V9 a9 hv9 hd9 => ?_)
  have h10 := SlAt.mono h7 hv9
  have h11 := SlAt.mono h5 hv9
  have h9 : SlAt cTPart V9 (some a9) 1 ([(⟨(1 : Int), [], (1 : Int), (2 : Int), ([103] : Str)⟩ : TPart)] : List TPart) := RowRep.slat (c := cTPart) (V := V9) (cs := [.int .i64 ((1 : Int)), .string ⟨⟨[]⟩⟩, .int .i64 ((1 : Int)), .int .i64 ((2 : Int)), .string ⟨⟨([103] : Str)⟩⟩]) ⟨_, _, rfl, rfl, rfl⟩ (VLe.refl _) (fun _ => hd9) (by simp)
  refine Exec.run tyOk 400 rfl ?_
  obtain ⟨x12, hx12, hF⟩ := bnd_some hF
  refine Exec.call rfl rfl (W_placement_Split ((⟨0, ([(⟨(1 : Int), [], (1 : Int), (2 : Int), ([103] : Str)⟩ : TPart)] : List TPart)⟩ : TPlacement)) ((1 : Int)) (([107] : Str)) ((2 : Int)) h9 hx12) ?_
  rintro V14 _ hv14 ⟨a13, k13, rfl, h13⟩
  have h15 := SlAt.mono h10 hv14
  have h16 := SlAt.mono h11 hv14
  have h17 := SlAt.mono h9 hv14
  refine Exec.run tyOk 400 rfl ?_
  obtain ⟨x18, hx18, hF⟩ := bnd_some hF
  refine Exec.call rfl rfl (W_placement_Merge x4.1 ((1 : Int)) h16 hx18) ?_
  rintro V20 _ hv20 ⟨a19, k19, rfl, h19⟩
  have h21 := SlAt.mono h15 hv20
  have h22 := SlAt.mono h16 hv20
  have h23 := SlAt.mono h17 hv20
  have h24 := SlAt.mono h13 hv20
  refine Exec.run tyOk 400 rfl ?_
  rcases cond_some hF with ⟨hb, hF⟩ | ⟨hb, hF⟩
  · skip
    refine Exec.ifT rfl hb ?_
    refine Exec.run tyOk 400 rfl ?_
    obtain rfl := some_inj hF
    exact Exec.ret tyOk rfl rfl rfl
  · skip
    refine Exec.ifF rfl hb ?_
    refine Exec.run tyOk 400 rfl ?_
    obtain ⟨x25, hx25, hF⟩ := bnd_some hF
    refine Exec.callS (.bool (x25)) rfl rfl (W_placement_Valid x4.1 h22 hx25) ?_
    refine Exec.run tyOk 400 rfl ?_
    obtain ⟨x26, hx26, hF⟩ := bnd_some hF
    refine Exec.callS (.int .i64 (x26)) rfl rfl (fun gg0 => W_placement_Index x4.1 (([109] : Str)) h22 (gcall_some hx26 (gd1_of gg0))) ?_
    refine Exec.run tyOk 400 rfl ?_
    obtain ⟨x27, hx27, hF⟩ := bnd_some hF
    refine Exec.callS (.int .i64 (x27)) rfl rfl (fun gg0 => W_placement_Index x4.1 (([108, 122] : Str)) h22 (gcall_some hx27 (gd1_of gg0))) ?_
    refine Exec.run tyOk 400 rfl ?_
    obtain ⟨x28, hx28, hF⟩ := bnd_some hF
    refine Exec.callS (.int .i64 (x28)) rfl rfl (fun gg0 => W_placement_Owner ((⟨0, ([(⟨(1 : Int), [], (1 : Int), (2 : Int), ([103] : Str)⟩ : TPart)] : List TPart)⟩ : TPlacement)) (([102] : Str)) h23 (gcall_some hx28 (gd1_of gg0))) ?_
    refine Exec.run tyOk 400 rfl ?_
    obtain ⟨x29, hx29, hF⟩ := bnd_some hF
    refine Exec.callS (.int .i64 (x29)) rfl rfl (fun gg0 => W_placement_Owner ((⟨0, ([(⟨(1 : Int), [], (1 : Int), (2 : Int), ([103] : Str)⟩ : TPart)] : List TPart)⟩ : TPlacement)) (([103] : Str)) h23 (gcall_some hx29 (gd1_of gg0))) ?_
    refine Exec.run tyOk 400 rfl ?_
    obtain ⟨x30, hx30, hF⟩ := bnd_some hF
    refine Exec.callG (fun y : Option Addr × Nat => .slice y.1 ((x30).length) (y.2)) (none, 0) (R := fun V' y => SlAt (cInt .i64) V' y.1 y.2 x30) rfl rfl rfl (fun gg0 => (W_placement_Nodes ((⟨0, ([(⟨(1 : Int), [], (1 : Int), (2 : Int), ([103] : Str)⟩ : TPart)] : List TPart)⟩ : TPlacement)) h23 (gcall_some hx30 (gd1_of gg0))).mono (fun V' _ _ ⟨a31, k31, e1, h31⟩ => ⟨⟨a31, k31⟩, e1, h31⟩)) ?_
    rintro V32 ⟨a31, k31⟩ hv32 hg32
    have h31 : SlAt (cInt .i64) V32 a31 k31 x30 := gslat1 hx30 (fun gg0 => (hg32 gg0))
    have h33 := SlAt.mono h21 hv32
    have h34 := SlAt.mono h22 hv32
    have h35 := SlAt.mono h23 hv32
    have h36 := SlAt.mono h24 hv32
    have h37 := SlAt.mono h19 hv32
    refine Exec.run tyOk 400 rfl ?_
    refine Exec.gbsV tyOk rfl rfl rfl rfl (fun V38 a38 hv38 hg38 => ?_) rfl
    have h39 := SlAt.mono h33 hv38
    have h40 := SlAt.mono h34 hv38
    have h41 := SlAt.mono h35 hv38
    have h42 := SlAt.mono h36 hv38
    have h43 := SlAt.mono h37 hv38
    have h44 := SlAt.mono h31 hv38
    have h38 : ((((((x25 && (x26 == (1 : Int))) && (x27 == (0 : Int))) && ((x8.1.From == []) && ((x8.1.To == ([109] : Str)) && true))) && (x28 == (2 : Int))) && (x29 == (1 : Int)))) = true → SlAt (cInt .i64) V38 ((some a38)) 2 (([(1 : Int), (2 : Int)] : List Int)) := fun gg0 => RowRep.slat (c := (cInt .i64)) (V := V38) (cs := [.int .i64 ((1 : Int)), .int .i64 ((2 : Int))]) ⟨_, _, rfl, rfl, ⟨_, _, rfl, rfl, rfl⟩⟩ (VLe.refl _) (fun _ => hg38 gg0) (by simp)
    refine Exec.run tyOk 400 rfl ?_
    obtain ⟨x45, hx45, hF⟩ := bnd_some hF
    refine Exec.callS (.bool (x45)) rfl rfl (fun gg0 => W_clockworkref23_Ints x30 (([(1 : Int), (2 : Int)] : List Int)) h44 (h38 gg0) (gcall_some hx45 (gd1_of gg0))) ?_
    refine Exec.run tyOk 400 rfl ?_
    obtain rfl := some_inj hF
    exact Exec.ret tyOk rfl rfl rfl

-- uses W_wire_TakeInt W_wire_TakeText W_wire_TakeCount W_placement_Valid
theorem CellsAt.one {cs : List Value} {o : Nat} {v : Value} (h : cs[o]? = some v) : CellsAt cs o [v] := by
  intro j u hu
  cases j with
  | zero => simp at hu; subst hu; simpa using h
  | succ j => simp at hu

def rdNumber (s : Str) (at' e : Int) : Option (Int × Int × Int) := cond (e != (0 : Int)) (some ((0 : Int), at', e)) (bnd (F_wire_TakeInt s at') fun x => some x)
def rdText (s : Str) (at' e : Int) : Option (Str × Int × Int) := cond (e != (0 : Int)) (some (([] : Str), at', e)) (bnd (F_wire_TakeText s at' (24 : Int)) fun x => some x)
set_option maxRecDepth 100000 in
theorem X_number {V : View} (b : Nat) (x1 : Str) (x2 x4 : Int) {r : Int × Int × Int} (hF : rdNumber x1 x2 x4 = some r) :
    SpecR Try.prog 49 [.pointer (some ⟨b, 0, none⟩)] [⟨.slice (some ⟨b, 0, none⟩) 1 1, [.string ⟨⟨x1⟩⟩, .int .i64 (x2), .int .i64 (x4)], 68, 3⟩] V (fun V' v rs' => v = .int .i64 (r.1) ∧ rs' = [⟨.slice (some ⟨b, 0, none⟩) 1 1, [.string ⟨⟨x1⟩⟩, .int .i64 (r.2.1), .int .i64 (r.2.2)], 68, 3⟩]) := by
  unfold rdNumber at hF
  refine SpecR.enter (T := tyT) Try.func49 rfl (by kernel_rfl) rfl rfl rfl (M := [.row (.slice (some ⟨b, 0, none⟩) 1 1) [.string ⟨⟨x1⟩⟩, .int .i64 (x2), .int .i64 (x4)] 68 3]) rfl ?_
  refine Exec.run tyOk 400 rfl ?_
  refine Exec.ldP tyOk 0 (l := [.int .i64 x4]) rfl rfl rfl (CellsAt.one rfl) rfl rfl ?_
  refine Exec.run tyOk 400 rfl ?_
  rcases cond_some hF with ⟨hb, hF⟩ | ⟨hb, hF⟩
  · skip
    refine Exec.ifT rfl hb ?_
    refine Exec.run tyOk 400 rfl ?_
    obtain rfl := some_inj hF
    exact Exec.ret tyOk rfl rfl ⟨[⟨.slice (some ⟨b, 0, none⟩) 1 1, [.string ⟨⟨x1⟩⟩, .int .i64 (x2), .int .i64 (x4)], 68, 3⟩], rfl, rfl, rfl, rfl⟩
  · skip
    refine Exec.ifF rfl hb ?_
    refine Exec.run tyOk 400 rfl ?_
    refine Exec.draws tyOk [(0, true), (1, true), (2, true), (3, true), (4, true), (5, true), (6, true), (7, true), (8, false), (9, false), (10, true), (11, true), (12, true), (13, false), (14, false), (15, false)] rfl (by kernel_rfl) ?_
    refine Exec.run tyOk 400 rfl ?_
    refine Exec.fldP tyOk 0 (l := [.string ⟨⟨x1⟩⟩]) rfl rfl rfl rfl (CellsAt.one rfl) rfl rfl ?_
    refine Exec.run tyOk 400 rfl ?_
    refine Exec.fldP tyOk 0 (l := [.int .i64 x2]) rfl rfl rfl rfl (CellsAt.one rfl) rfl rfl ?_
    refine Exec.run tyOk 400 rfl ?_
    obtain ⟨x3, hx3, hF⟩ := bnd_some hF
    obtain rfl := some_inj hF
    refine Exec.callS (.tuple ⟨[.int .i64 (x3.1), .int .i64 (x3.2.1), .int .i64 (x3.2.2)]⟩) rfl rfl (W_wire_TakeInt x1 x2 hx3) ?_
    refine Exec.run tyOk 400 rfl ?_
    refine Exec.stP tyOk 0 rfl rfl rfl rfl rfl (Nat.le_of_ble_eq_true rfl) rfl rfl rfl ?_
    refine Exec.run tyOk 400 rfl ?_
    refine Exec.stP tyOk 0 rfl rfl rfl rfl rfl (Nat.le_of_ble_eq_true rfl) rfl rfl rfl ?_
    refine Exec.run tyOk 400 rfl ?_
    exact Exec.ret tyOk rfl rfl ⟨[⟨.slice (some ⟨b, 0, none⟩) 1 1, [.string ⟨⟨x1⟩⟩, .int .i64 (x3.2.1), .int .i64 (x3.2.2)], 68, 3⟩], rfl, rfl, rfl, rfl⟩
set_option maxRecDepth 100000 in
theorem X_text {V : View} (b : Nat) (x1 : Str) (x2 x4 : Int) {r : Str × Int × Int} (hF : rdText x1 x2 x4 = some r) :
    SpecR Try.prog 51 [.pointer (some ⟨b, 0, none⟩)] [⟨.slice (some ⟨b, 0, none⟩) 1 1, [.string ⟨⟨x1⟩⟩, .int .i64 (x2), .int .i64 (x4)], 68, 3⟩] V (fun V' v rs' => v = .string ⟨⟨r.1⟩⟩ ∧ rs' = [⟨.slice (some ⟨b, 0, none⟩) 1 1, [.string ⟨⟨x1⟩⟩, .int .i64 (r.2.1), .int .i64 (r.2.2)], 68, 3⟩]) := by
  unfold rdText at hF
  refine SpecR.enter (T := tyT) Try.func51 rfl (by kernel_rfl) rfl rfl rfl (M := [.row (.slice (some ⟨b, 0, none⟩) 1 1) [.string ⟨⟨x1⟩⟩, .int .i64 (x2), .int .i64 (x4)] 68 3]) rfl ?_
  refine Exec.run tyOk 400 rfl ?_
  refine Exec.ldP tyOk 0 (l := [.int .i64 x4]) rfl rfl rfl (CellsAt.one rfl) rfl rfl ?_
  refine Exec.run tyOk 400 rfl ?_
  rcases cond_some hF with ⟨hb, hF⟩ | ⟨hb, hF⟩
  · skip
    refine Exec.ifT rfl hb ?_
    refine Exec.run tyOk 400 rfl ?_
    obtain rfl := some_inj hF
    exact Exec.ret tyOk rfl rfl ⟨[⟨.slice (some ⟨b, 0, none⟩) 1 1, [.string ⟨⟨x1⟩⟩, .int .i64 (x2), .int .i64 (x4)], 68, 3⟩], rfl, rfl, rfl, rfl⟩
  · skip
    refine Exec.ifF rfl hb ?_
    refine Exec.run tyOk 400 rfl ?_
    refine Exec.draws tyOk [(0, true), (1, true), (2, true), (3, true), (4, true), (5, true), (6, true), (7, true), (8, false), (9, false), (10, true), (11, true), (12, true), (13, false), (14, false), (15, false)] rfl (by kernel_rfl) ?_
    refine Exec.run tyOk 400 rfl ?_
    refine Exec.fldP tyOk 0 (l := [.string ⟨⟨x1⟩⟩]) rfl rfl rfl rfl (CellsAt.one rfl) rfl rfl ?_
    refine Exec.run tyOk 400 rfl ?_
    refine Exec.fldP tyOk 0 (l := [.int .i64 x2]) rfl rfl rfl rfl (CellsAt.one rfl) rfl rfl ?_
    refine Exec.run tyOk 400 rfl ?_
    obtain ⟨x3, hx3, hF⟩ := bnd_some hF
    obtain rfl := some_inj hF
    refine Exec.callS (.tuple ⟨[.string ⟨⟨x3.1⟩⟩, .int .i64 (x3.2.1), .int .i64 (x3.2.2)]⟩) rfl rfl (W_wire_TakeText x1 x2 (24 : Int) hx3) ?_
    refine Exec.run tyOk 400 rfl ?_
    refine Exec.stP tyOk 0 rfl rfl rfl rfl rfl (Nat.le_of_ble_eq_true rfl) rfl rfl rfl ?_
    refine Exec.run tyOk 400 rfl ?_
    refine Exec.stP tyOk 0 rfl rfl rfl rfl rfl (Nat.le_of_ble_eq_true rfl) rfl rfl rfl ?_
    refine Exec.run tyOk 400 rfl ?_
    exact Exec.ret tyOk rfl rfl ⟨[⟨.slice (some ⟨b, 0, none⟩) 1 1, [.string ⟨⟨x1⟩⟩, .int .i64 (x3.2.1), .int .i64 (x3.2.2)], 68, 3⟩], rfl, rfl, rfl, rfl⟩
def F_placement_Decode_L1 (x1 : Str) (n : Int) (J : List TPart → Int → Int → Option (TPlacement × Int × Int)) : Nat → List TPart → Int → Int → Int → Option (TPlacement × Int × Int)
  | 0, _, _, _, _ => none
  | n25 + 1, x, at', e, i => cond (decide (i < n)) (bnd (rdNumber x1 at' e) fun y1 => bnd (rdText x1 y1.2.1 y1.2.2) fun y2 => bnd (rdNumber x1 y2.2.1 y2.2.2) fun y3 => bnd (rdNumber x1 y3.2.1 y3.2.2) fun y4 => bnd (rdText x1 y4.2.1 y4.2.2) fun y5 =>
      req ((x ++ [(⟨y1.1, y2.1, y3.1, y4.1, y5.1⟩ : TPart)]).length * 56 ≤ 140737488355328) (F_placement_Decode_L1 x1 n J n25 (x ++ [(⟨y1.1, y2.1, y3.1, y4.1, y5.1⟩ : TPart)]) y5.2.1 y5.2.2 (IntKind.i64.wrap (i + (1 : Int))))) (J x at' e)

def F_placement_Decode (x1 : Str) (x2 : Int) : Option (TPlacement × Int × Int) :=
  bnd (rdNumber x1 x2 0) fun x3 => cond (x3.2.2 != (0 : Int)) (some ((⟨0, ([] : List TPart)⟩ : TPlacement), (0 : Int), x3.2.2)) (bnd (F_wire_TakeCount x1 x3.2.1 (16 : Int)) fun x4 =>
    jn (fun (x : List TPart) (at' e : Int) => bnd (gcall ((e == (0 : Int)) == true) (F_placement_Valid (⟨x3.1, x⟩ : TPlacement))) fun v =>
      jn (fun (e2 : Int) => cond (e2 != (0 : Int)) (some ((⟨0, ([] : List TPart)⟩ : TPlacement), (0 : Int), e2)) (some ((⟨x3.1, x⟩ : TPlacement), at', (0 : Int)))) fun J2 => cond ((e == (0 : Int)) && (!v)) (J2 5) (J2 e))
    fun J => F_placement_Decode_L1 x1 x4.1 J ((x4.1).toNat + 1) [] x4.2.1 x4.2.2 0)

set_option maxRecDepth 100000 in
theorem W_placement_Decode {V : View} (x1 : Str) (x2 : Int) {r : TPlacement × Int × Int} (hF : F_placement_Decode x1 x2 = some r) :
    Spec Try.prog 32 [.string ⟨⟨x1⟩⟩, .int .i64 (x2)] V (fun V' v => ∃ (a30 : Option Addr) (k30 : Nat), v = .tuple ⟨[.agg ⟨[.int .i64 (r.1.Version), .slice a30 ((r.1.Parts).length) (k30)]⟩, .int .i64 (r.2.1), .int .i64 (r.2.2)]⟩ ∧ SlAt cTPart V' a30 k30 r.1.Parts) := by
  unfold F_placement_Decode at hF
  refine Spec.enter (T := tyT) Try.func32 rfl (by kernel_rfl) rfl rfl rfl ?_
  refine Exec.run tyOk 400 rfl ?_
  refine Exec.fixR 1 (n := 1) (sz := 3) rfl rfl rfl rfl rfl (fun _ => rfl) (fun _ => rfl) (fun _ => rfl) (fun b => ?_)
  obtain ⟨x3, hx3, hF⟩ := bnd_some hF
  refine Exec.callR [1] (rs := [⟨.slice (some ⟨b, 0, none⟩) 1 1, [.string ⟨⟨x1⟩⟩, .int .i64 (x2), .int .i64 (0)], 68, 3⟩]) rfl rfl rfl rfl rfl rfl (X_number b x1 x2 0 hx3) ?_
  rintro V5 _ _ hv5 ⟨rfl, rfl⟩
  refine ⟨_, rfl, ?_⟩
  refine Exec.run tyOk 400 rfl ?_
  refine Exec.ldP tyOk 1 (l := [.int .i64 x3.2.2]) rfl rfl rfl (CellsAt.one rfl) rfl rfl ?_
  refine Exec.run tyOk 400 rfl ?_
  rcases cond_some hF with ⟨hb, hF⟩ | ⟨hb, hF⟩
  · skip
    refine Exec.ifT rfl hb ?_
    refine Exec.run tyOk 400 rfl ?_
    refine Exec.draws tyOk [(0, true), (1, true), (2, true), (3, true), (4, true), (5, false), (6, false), (7, false)] rfl (by kernel_rfl) ?_
    refine Exec.run tyOk 400 rfl ?_
    refine Exec.fldP tyOk 1 (l := [.int .i64 x3.2.2]) rfl rfl rfl rfl (CellsAt.one rfl) rfl rfl ?_
    refine Exec.run tyOk 400 rfl ?_
    obtain rfl := some_inj hF
    exact Exec.ret tyOk rfl rfl ⟨_, _, rfl, SlAt.nil⟩
  · skip
    refine Exec.ifF rfl hb ?_
    refine Exec.run tyOk 400 rfl ?_
    refine Exec.ldP tyOk 1 (l := [.int .i64 x3.2.1]) rfl rfl rfl (CellsAt.one rfl) rfl rfl ?_
    refine Exec.run tyOk 400 rfl ?_
    obtain ⟨x4, hx4, hF⟩ := bnd_some hF
    refine Exec.callS (.tuple ⟨[.int .i64 (x4.1), .int .i64 (x4.2.1), .int .i64 (x4.2.2)]⟩) rfl rfl (W_wire_TakeCount x1 x3.2.1 ((16 : Int)) hx4) ?_
    refine Exec.run tyOk 400 rfl ?_
    refine Exec.stP tyOk 1 rfl rfl rfl rfl rfl (Nat.le_of_ble_eq_true rfl) rfl rfl rfl ?_
    refine Exec.run tyOk 400 rfl ?_
    refine Exec.stP tyOk 1 rfl rfl rfl rfl rfl (Nat.le_of_ble_eq_true rfl) rfl rfl rfl ?_
    refine Exec.run tyOk 2 rfl ?_
    refine Exec.row0 49 5 rfl ?_
    obtain ⟨J13, hJ13, hF⟩ := jn_some hF
    refine Exec.seam (fun L' V' M' => ∃ (x : List TPart) (a : Option Addr) (k : Nat) (cs : List Value) (x5 x6 : Int), L' = [(4, .ptr 0 0), (7, .v (.pointer (some ⟨b, 0, none⟩))), (8, .ptr 2 0)] ∧ M' = [.blk [.v (.int .i64 0), .v (.slice none 0 0)] 24, .row (.slice (some ⟨b, 0, none⟩) 1 1) [.string ⟨⟨x1⟩⟩, .int .i64 (x5), .int .i64 (x6)] 68 3, .blk [.v (.int .i64 (x3.1)), .v (.slice a (x).length k)] 24, .row (.slice a (x).length k) (cs) 49 5] ∧ RowRep cTPart V' x cs ∧ J13 x x5 x6 = some r) rfl ?_ ?_
    · rintro L' V14 M' ⟨x, a, k, cs, x5, x6, rfl, rfl, h10, hF⟩
      subst hJ13
      refine Exec.run tyOk 400 rfl ?_
      refine Exec.ldP tyOk 1 (l := [.int .i64 x6]) rfl rfl rfl (CellsAt.one rfl) rfl rfl ?_
      refine Exec.run tyOk 400 rfl ?_
      obtain ⟨x15, hx15, hF⟩ := bnd_some hF
      refine Exec.callL (.bool (x15)) rfl rfl (fun _ hv hl => fun gg0 => W_placement_Valid (⟨x3.1, x⟩ : TPlacement) (RowRep.slat h10 hv (hl 3 _ _ _ _ _ _ rfl).1 (hl 3 _ _ _ _ _ _ rfl).2) (gcall_some hx15 (gd1_of gg0))) ?_
      refine Exec.run tyOk 400 rfl ?_
      obtain ⟨J16, hJ16, hF⟩ := jn_some hF
      refine Exec.seam (fun L' V' M' => ∃ (x7 : Int), L' = [(4, .ptr 0 0), (7, .v (.pointer (some ⟨b, 0, none⟩))), (8, .ptr 2 0)] ∧ M' = [.blk [.v (.int .i64 0), .v (.slice none 0 0)] 24, .row (.slice (some ⟨b, 0, none⟩) 1 1) [.string ⟨⟨x1⟩⟩, .int .i64 (x5), .int .i64 (x7)] 68 3, .blk [.v (.int .i64 (x3.1)), .v (.slice a (x).length k)] 24, .row (.slice a (x).length k) (cs) 49 5] ∧ RowRep cTPart V' x cs ∧ J16 x7 = some r) rfl ?_ ?_
      · rintro L' V17 M' ⟨x7, rfl, rfl, h17, hF⟩
        subst hJ16
        refine Exec.run tyOk 400 rfl ?_
        refine Exec.ldP tyOk 1 (l := [.int .i64 x7]) rfl rfl rfl (CellsAt.one rfl) rfl rfl ?_
        refine Exec.run tyOk 400 rfl ?_
        rcases cond_some hF with ⟨hb, hF⟩ | ⟨hb, hF⟩
        · skip
          refine Exec.ifT rfl hb ?_
          refine Exec.run tyOk 400 rfl ?_
          refine Exec.draws tyOk [(0, true), (1, true), (2, true), (3, true), (4, true), (5, false), (6, false), (7, false)] rfl (by kernel_rfl) ?_
          refine Exec.run tyOk 400 rfl ?_
          refine Exec.fldP tyOk 1 (l := [.int .i64 x7]) rfl rfl rfl rfl (CellsAt.one rfl) rfl rfl ?_
          refine Exec.run tyOk 400 rfl ?_
          obtain rfl := some_inj hF
          exact Exec.ret tyOk rfl rfl ⟨_, _, rfl, SlAt.nil⟩
        · skip
          refine Exec.ifF rfl hb ?_
          refine Exec.run tyOk 400 rfl ?_
          refine Exec.draws tyOk [(0, true), (1, true), (2, true), (3, true), (4, true), (5, false), (6, false), (7, false)] rfl (by kernel_rfl) ?_
          refine Exec.run tyOk 400 rfl ?_
          refine Exec.fldP tyOk 1 (l := [.int .i64 x5]) rfl rfl rfl rfl (CellsAt.one rfl) rfl rfl ?_
          refine Exec.run tyOk 400 rfl ?_
          refine Exec.frz 3 rfl rfl rfl (fun V18 hv18 hd18 hn18 => ?_)
          have hz18 := RowRep.slat h17 hv18 hd18 hn18
          obtain rfl := some_inj hF
          exact Exec.ret tyOk rfl rfl ⟨_, _, rfl, hz18⟩
      · skip
        refine Exec.run tyOk 400 rfl ?_
        rcases cond_some hF with ⟨hb, hF⟩ | ⟨hb, hF⟩
        · skip
          refine Exec.ifT rfl hb ?_
          refine Exec.run tyOk 400 rfl ?_
          refine Exec.stP tyOk 1 rfl rfl rfl rfl rfl (Nat.le_of_ble_eq_true rfl) rfl rfl rfl ?_
          refine Exec.run tyOk 400 rfl ?_
          exact Exec.round [(4, .ptr 0 0), (7, .v (.pointer (some ⟨b, 0, none⟩))), (8, .ptr 2 0)] ⟨rfl, rfl, rfl, trivial⟩ ⟨5, rfl, rfl, h10, hF⟩
        · skip
          refine Exec.ifF rfl hb ?_
          refine Exec.run tyOk 400 rfl ?_
          exact Exec.round [(4, .ptr 0 0), (7, .v (.pointer (some ⟨b, 0, none⟩))), (8, .ptr 2 0)] ⟨rfl, rfl, rfl, trivial⟩ ⟨x6, rfl, rfl, h10, hF⟩
    · skip
      refine Exec.run tyOk 400 rfl ?_
      refine Exec.loop (fun n25 L' V' M' => ∃ (x : List TPart) (a : Option Addr) (k : Nat) (cs : List Value) (x5 x6 x7 : Int), L' = [(0, .v (.string ⟨⟨x1⟩⟩)), (4, .ptr 0 0), (7, .v (.pointer (some ⟨b, 0, none⟩))), (8, .ptr 2 0), (48, .v (.int .i64 (x4.1))), (49, .v (.int .i64 (x7)))] ∧ M' = [.blk [.v (.int .i64 0), .v (.slice none 0 0)] 24, .row (.slice (some ⟨b, 0, none⟩) 1 1) [.string ⟨⟨x1⟩⟩, .int .i64 (x5), .int .i64 (x6)] 68 3, .blk [.v (.int .i64 (x3.1)), .v (.slice a (x).length k)] 24, .row (.slice a (x).length k) (cs) 49 5] ∧ RowRep cTPart V' x cs ∧ F_placement_Decode_L1 x1 x4.1 J13 n25 x x5 x6 x7 = some r) ⟨((x4.1).toNat + 1), [(0, .v (.string ⟨⟨x1⟩⟩)), (4, .ptr 0 0), (7, .v (.pointer (some ⟨b, 0, none⟩))), (8, .ptr 2 0), (48, .v (.int .i64 (x4.1))), (49, .v (.int .i64 (0)))], ⟨rfl, rfl, rfl, rfl, rfl, rfl, trivial⟩, ([] : List TPart), none, 0, [], x4.2.1, x4.2.2, (0 : Int), rfl, rfl, RowRep.nil, hF⟩ ?_
      rintro n25 L' V26 M' ⟨x, a, k, cs, x5, x6, x7, rfl, rfl, h21, hF⟩
      rcases n25 with _ | n25
      · exact absurd hF (by simp [F_placement_Decode_L1])
      rw [F_placement_Decode_L1] at hF
      refine Exec.run tyOk 400 rfl ?_
      rcases cond_some hF with ⟨hb, hF⟩ | ⟨hb, hF⟩
      · skip
        refine Exec.ifT rfl hb ?_
        refine Exec.run tyOk 400 rfl ?_
        obtain ⟨y1, hy1, hF⟩ := bnd_some hF
        refine Exec.callR [1] (rs := [⟨.slice (some ⟨b, 0, none⟩) 1 1, [.string ⟨⟨x1⟩⟩, .int .i64 (x5), .int .i64 (x6)], 68, 3⟩]) rfl rfl rfl rfl rfl rfl (X_number b x1 (x5) (x6) hy1) ?_
        rintro Vy1 _ _ hvy1 ⟨rfl, rfl⟩
        refine ⟨_, rfl, ?_⟩
        replace h21 := RowRep.mono hvy1 h21
        refine Exec.run tyOk 400 rfl ?_
        obtain ⟨y2, hy2, hF⟩ := bnd_some hF
        refine Exec.callR [1] (rs := [⟨.slice (some ⟨b, 0, none⟩) 1 1, [.string ⟨⟨x1⟩⟩, .int .i64 (y1.2.1), .int .i64 (y1.2.2)], 68, 3⟩]) rfl rfl rfl rfl rfl rfl (X_text b x1 (y1.2.1) (y1.2.2) hy2) ?_
        rintro Vy2 _ _ hvy2 ⟨rfl, rfl⟩
        refine ⟨_, rfl, ?_⟩
        replace h21 := RowRep.mono hvy2 h21
        refine Exec.run tyOk 400 rfl ?_
        obtain ⟨y3, hy3, hF⟩ := bnd_some hF
        refine Exec.callR [1] (rs := [⟨.slice (some ⟨b, 0, none⟩) 1 1, [.string ⟨⟨x1⟩⟩, .int .i64 (y2.2.1), .int .i64 (y2.2.2)], 68, 3⟩]) rfl rfl rfl rfl rfl rfl (X_number b x1 (y2.2.1) (y2.2.2) hy3) ?_
        rintro Vy3 _ _ hvy3 ⟨rfl, rfl⟩
        refine ⟨_, rfl, ?_⟩
        replace h21 := RowRep.mono hvy3 h21
        refine Exec.run tyOk 400 rfl ?_
        obtain ⟨y4, hy4, hF⟩ := bnd_some hF
        refine Exec.callR [1] (rs := [⟨.slice (some ⟨b, 0, none⟩) 1 1, [.string ⟨⟨x1⟩⟩, .int .i64 (y3.2.1), .int .i64 (y3.2.2)], 68, 3⟩]) rfl rfl rfl rfl rfl rfl (X_number b x1 (y3.2.1) (y3.2.2) hy4) ?_
        rintro Vy4 _ _ hvy4 ⟨rfl, rfl⟩
        refine ⟨_, rfl, ?_⟩
        replace h21 := RowRep.mono hvy4 h21
        refine Exec.run tyOk 400 rfl ?_
        obtain ⟨y5, hy5, hF⟩ := bnd_some hF
        refine Exec.callR [1] (rs := [⟨.slice (some ⟨b, 0, none⟩) 1 1, [.string ⟨⟨x1⟩⟩, .int .i64 (y4.2.1), .int .i64 (y4.2.2)], 68, 3⟩]) rfl rfl rfl rfl rfl rfl (X_text b x1 (y4.2.1) (y4.2.2) hy5) ?_
        rintro Vy5 _ _ hvy5 ⟨rfl, rfl⟩
        refine ⟨_, rfl, ?_⟩
        replace h21 := RowRep.mono hvy5 h21
        refine Exec.run tyOk 400 rfl ?_
        refine Exec.bsl tyOk rfl rfl ?_
        refine Exec.run tyOk 400 rfl ?_
        obtain ⟨q29, hF⟩ := req_some hF
        refine Exec.app tyOk 3 5 (nm := (x ++ [(⟨y1.1, y2.1, y3.1, y4.1, y5.1⟩ : TPart)]).length) rfl rfl rfl rfl rfl rfl rfl rfl rfl (by simp) (fun _ _ => rfl) rfl q29 (fun a28 k28 => ?_)
        have h28 : RowRep cTPart Vy5 (x ++ [(⟨y1.1, y2.1, y3.1, y4.1, y5.1⟩ : TPart)]) (cs ++ [.int .i64 (y1.1), .string ⟨⟨y2.1⟩⟩, .int .i64 (y3.1), .int .i64 (y4.1), .string ⟨⟨y5.1⟩⟩]) := RowRep.app h21 ⟨_, _, rfl, rfl, rfl⟩
        refine Exec.run tyOk 400 rfl ?_
        refine Exec.cut 4 [(0, .v (.string ⟨⟨x1⟩⟩)), (4, .ptr 0 0), (7, .v (.pointer (some ⟨b, 0, none⟩))), (8, .ptr 2 0), (48, .v (.int .i64 (x4.1))), (49, .v (.int .i64 (IntKind.i64.wrap (x7 + (1 : Int)))))] (M' := [.blk [.v (.int .i64 0), .v (.slice none 0 0)] 24, .row (.slice (some ⟨b, 0, none⟩) 1 1) [.string ⟨⟨x1⟩⟩, .int .i64 (y5.2.1), .int .i64 (y5.2.2)] 68 3, .blk [.v (.int .i64 (x3.1)), .v (.slice a28 (x ++ [(⟨y1.1, y2.1, y3.1, y4.1, y5.1⟩ : TPart)]).length k28)] 24, .row (.slice a28 (x ++ [(⟨y1.1, y2.1, y3.1, y4.1, y5.1⟩ : TPart)]).length k28) (cs ++ [.int .i64 (y1.1), .string ⟨⟨y2.1⟩⟩, .int .i64 (y3.1), .int .i64 (y4.1), .string ⟨⟨y5.1⟩⟩]) 49 5]) rfl ⟨rfl, rfl, rfl, rfl, rfl, rfl, trivial⟩ rfl rfl rfl ?_
        exact Exec.round [(0, .v (.string ⟨⟨x1⟩⟩)), (4, .ptr 0 0), (7, .v (.pointer (some ⟨b, 0, none⟩))), (8, .ptr 2 0), (48, .v (.int .i64 (x4.1))), (49, .v (.int .i64 (IntKind.i64.wrap (x7 + (1 : Int)))))] ⟨rfl, rfl, rfl, rfl, rfl, rfl, trivial⟩ ⟨n25, Nat.lt_succ_self _, (x ++ [(⟨y1.1, y2.1, y3.1, y4.1, y5.1⟩ : TPart)]), a28, k28, cs ++ [.int .i64 (y1.1), .string ⟨⟨y2.1⟩⟩, .int .i64 (y3.1), .int .i64 (y4.1), .string ⟨⟨y5.1⟩⟩], y5.2.1, y5.2.2, (IntKind.i64.wrap (x7 + (1 : Int))), rfl, rfl, h28, hF⟩
      · skip
        refine Exec.ifF rfl hb ?_
        refine Exec.run tyOk 400 rfl ?_
        exact Exec.round [(4, .ptr 0 0), (7, .v (.pointer (some ⟨b, 0, none⟩))), (8, .ptr 2 0)] ⟨rfl, rfl, rfl, trivial⟩ ⟨x, a, k, cs, x5, x6, rfl, rfl, h21, hF⟩

def F_placement_Encode_L1 (x1 : TPlacement) (J7 : Str → Option Str) : Nat → Str → Int → Option Str
  | 0, _, _ => none
  | n11 + 1, x9, x10 => (cond (decide (x10 < (((x1.Parts).length : Nat) : Int))) (req (0 ≤ x10 ∧ x10 < ((x1.Parts).length : Int)) (bnd (F_wire_Int ((atI x1.Parts x10).Id)) fun x16 => (bnd (F_wire_Text ((atI x1.Parts x10).From)) fun x17 => (req ((x16).length + (x17).length ≤ 9223372036854775807) (bnd (F_wire_Int ((atI x1.Parts x10).Node)) fun x19 => (req (((x16 ++ x17)).length + (x19).length ≤ 9223372036854775807) (bnd (F_wire_Int ((atI x1.Parts x10).Dest)) fun x21 => (req ((((x16 ++ x17) ++ x19)).length + (x21).length ≤ 9223372036854775807) (bnd (F_wire_Text ((atI x1.Parts x10).Done)) fun x23 => (req (((((x16 ++ x17) ++ x19) ++ x21)).length + (x23).length ≤ 9223372036854775807) (req ((x9).length + (((((x16 ++ x17) ++ x19) ++ x21) ++ x23)).length ≤ 9223372036854775807) (F_placement_Encode_L1 x1 J7 n11 ((x9 ++ ((((x16 ++ x17) ++ x19) ++ x21) ++ x23))) ((IntKind.i64.wrap (x10 + (1 : Int)))))))))))))))) (J7 x9))

def F_placement_Encode (x1 : TPlacement) : Option Str :=
  (bnd (F_wire_Int x1.Version) fun x3 => (bnd (F_wire_Uint ((IntKind.u64.wrap (((x1.Parts).length : Nat) : Int)))) fun x4 => (req ((x3).length + (x4).length ≤ 9223372036854775807) (jn (fun (x6 : Str) => (some x6)) (fun J7 => (F_placement_Encode_L1 x1 J7 (((((x1.Parts).length : Nat) : Int)).toNat + 1) ((x3 ++ x4)) ((0 : Int))))))))

set_option maxRecDepth 100000 in
theorem W_placement_Encode {V : View} (x1 : TPlacement) {a2 : Option Addr} {k2 : Nat} (h2 : SlAt cTPart V a2 k2 x1.Parts) {r : Str} (hF : F_placement_Encode x1 = some r) :
    Spec Try.prog 34 [.agg ⟨[.int .i64 (x1.Version), .slice a2 ((x1.Parts).length) (k2)]⟩] V (fun _ v => v = .string ⟨⟨r⟩⟩) := by
  unfold F_placement_Encode at hF
  refine Spec.enter (T := tyT) Try.func34 rfl (by kernel_rfl) rfl rfl rfl ?_
  refine Exec.run tyOk 400 rfl ?_
  refine Exec.draws tyOk [(0, true), (1, true), (3, true), (4, true), (5, true), (6, true), (2, false), (7, false), (8, false), (9, false)] rfl (by kernel_rfl) ?_
  refine Exec.run tyOk 400 rfl ?_
  obtain ⟨x3, hx3, hF⟩ := bnd_some hF
  refine Exec.callS (.string ⟨⟨x3⟩⟩) rfl rfl (W_wire_Int x1.Version  hx3) ?_
  refine Exec.run tyOk 400 rfl ?_
  obtain ⟨x4, hx4, hF⟩ := bnd_some hF
  refine Exec.callS (.string ⟨⟨x4⟩⟩) rfl rfl (W_wire_Uint ((IntKind.u64.wrap (((x1.Parts).length : Nat) : Int)))  hx4) ?_
  refine Exec.run tyOk 400 rfl ?_
  obtain ⟨q5, hF⟩ := req_some hF
  refine Exec.cat rfl rfl q5 ?_
  refine Exec.run tyOk 13 rfl ?_
  obtain ⟨J7, hJ7, hF⟩ := jn_some hF
  refine Exec.seam (fun L' V' M' => ∃ (x6 : Str), L' = [(3, .v (.string ⟨⟨x6⟩⟩))] ∧ M' = [] ∧ J7 x6 = some r) rfl ?_ ?_
  · rintro L' V8 M' ⟨x6, rfl, rfl, hF⟩
    subst hJ7
    refine Exec.run tyOk 400 rfl ?_
    obtain rfl := some_inj hF
    exact Exec.ret tyOk rfl rfl rfl
  · skip
    refine Exec.run tyOk 400 rfl ?_
    refine Exec.cut 0 [(3, .v (.string ⟨⟨(x3 ++ x4)⟩⟩)), (16, .v (.slice a2 ((x1.Parts).length) (k2))), (17, .v (.int .i64 ((((x1.Parts).length : Nat) : Int)))), (18, .v (.int .i64 ((0 : Int))))] (M' := []) rfl ⟨rfl, rfl, rfl, rfl, trivial⟩ rfl rfl rfl ?_
    refine Exec.loop (fun n11 L' V' M' => ∃ (x9 : Str) (x10 : Int), L' = [(3, .v (.string ⟨⟨x9⟩⟩)), (16, .v (.slice a2 ((x1.Parts).length) (k2))), (17, .v (.int .i64 ((((x1.Parts).length : Nat) : Int)))), (18, .v (.int .i64 (x10)))] ∧ M' = [] ∧ SlAt cTPart V' a2 k2 x1.Parts ∧ F_placement_Encode_L1 x1 J7 n11 x9 x10 = some r) ⟨(((((x1.Parts).length : Nat) : Int)).toNat + 1), [(3, .v (.string ⟨⟨(x3 ++ x4)⟩⟩)), (16, .v (.slice a2 ((x1.Parts).length) (k2))), (17, .v (.int .i64 ((((x1.Parts).length : Nat) : Int)))), (18, .v (.int .i64 ((0 : Int))))], ⟨rfl, rfl, rfl, rfl, trivial⟩, (x3 ++ x4), (0 : Int), rfl, rfl, h2, hF⟩ ?_
    rintro n11 L' V12 M' ⟨x9, x10, rfl, rfl, h13, hF⟩
    rcases n11 with _ | n11
    · exact absurd hF (by simp [F_placement_Encode_L1])
    rw [F_placement_Encode_L1] at hF
    refine Exec.run tyOk 400 rfl ?_
    rcases cond_some hF with ⟨hb, hF⟩ | ⟨hb, hF⟩
    · skip
      refine Exec.ifT rfl hb ?_
      refine Exec.run tyOk 400 rfl ?_
      obtain ⟨q14, hF⟩ := req_some hF
      obtain ⟨c15, hr15, hd15⟩ := SlAt.get h13 q14
      obtain rfl := hr15
      refine Exec.ia tyOk rfl rfl ⟨q14.1, q14.2, hd15.some⟩ ?_
      refine Exec.run tyOk 400 rfl ?_
      refine Exec.ld tyOk (x := .agg ⟨[.int .i64 ((atI x1.Parts x10).Id), .string ⟨⟨(atI x1.Parts x10).From⟩⟩, .int .i64 ((atI x1.Parts x10).Node), .int .i64 ((atI x1.Parts x10).Dest), .string ⟨⟨(atI x1.Parts x10).Done⟩⟩]⟩) rfl rfl hd15 rfl rfl ?_
      refine Exec.run tyOk 400 rfl ?_
      refine Exec.draws tyOk [(0, true), (1, true), (2, true), (4, true), (5, true), (8, true), (9, true), (12, true), (13, true), (16, true), (17, true), (3, false), (6, false), (7, true), (10, false), (11, true), (14, false), (15, true), (18, false), (19, false), (20, false), (21, false)] rfl (by kernel_rfl) ?_
      refine Exec.run tyOk 400 rfl ?_
      obtain ⟨x16, hx16, hF⟩ := bnd_some hF
      refine Exec.callS (.string ⟨⟨x16⟩⟩) rfl rfl (W_wire_Int ((atI x1.Parts x10).Id)  hx16) ?_
      refine Exec.run tyOk 400 rfl ?_
      obtain ⟨x17, hx17, hF⟩ := bnd_some hF
      refine Exec.callS (.string ⟨⟨x17⟩⟩) rfl rfl (W_wire_Text ((atI x1.Parts x10).From)  hx17) ?_
      refine Exec.run tyOk 400 rfl ?_
      obtain ⟨q18, hF⟩ := req_some hF
      refine Exec.fcat rfl rfl rfl q18 ?_
      refine Exec.run tyOk 400 rfl ?_
      obtain ⟨x19, hx19, hF⟩ := bnd_some hF
      refine Exec.callS (.string ⟨⟨x19⟩⟩) rfl rfl (W_wire_Int ((atI x1.Parts x10).Node)  hx19) ?_
      refine Exec.run tyOk 400 rfl ?_
      obtain ⟨q20, hF⟩ := req_some hF
      refine Exec.fcat rfl rfl rfl q20 ?_
      refine Exec.run tyOk 400 rfl ?_
      obtain ⟨x21, hx21, hF⟩ := bnd_some hF
      refine Exec.callS (.string ⟨⟨x21⟩⟩) rfl rfl (W_wire_Int ((atI x1.Parts x10).Dest)  hx21) ?_
      refine Exec.run tyOk 400 rfl ?_
      obtain ⟨q22, hF⟩ := req_some hF
      refine Exec.fcat rfl rfl rfl q22 ?_
      refine Exec.run tyOk 400 rfl ?_
      obtain ⟨x23, hx23, hF⟩ := bnd_some hF
      refine Exec.callS (.string ⟨⟨x23⟩⟩) rfl rfl (W_wire_Text ((atI x1.Parts x10).Done)  hx23) ?_
      refine Exec.run tyOk 400 rfl ?_
      obtain ⟨q24, hF⟩ := req_some hF
      refine Exec.cat rfl rfl q24 ?_
      refine Exec.run tyOk 400 rfl ?_
      obtain ⟨q25, hF⟩ := req_some hF
      refine Exec.cat rfl rfl q25 ?_
      refine Exec.run tyOk 400 rfl ?_
      refine Exec.cut 0 [(3, .v (.string ⟨⟨(x9 ++ ((((x16 ++ x17) ++ x19) ++ x21) ++ x23))⟩⟩)), (16, .v (.slice a2 ((x1.Parts).length) (k2))), (17, .v (.int .i64 ((((x1.Parts).length : Nat) : Int)))), (18, .v (.int .i64 ((IntKind.i64.wrap (x10 + (1 : Int))))))] (M' := []) rfl ⟨rfl, rfl, rfl, rfl, trivial⟩ rfl rfl rfl ?_
      exact Exec.round [(3, .v (.string ⟨⟨(x9 ++ ((((x16 ++ x17) ++ x19) ++ x21) ++ x23))⟩⟩)), (16, .v (.slice a2 ((x1.Parts).length) (k2))), (17, .v (.int .i64 ((((x1.Parts).length : Nat) : Int)))), (18, .v (.int .i64 ((IntKind.i64.wrap (x10 + (1 : Int))))))] ⟨rfl, rfl, rfl, rfl, trivial⟩ ⟨n11, Nat.lt_succ_self _, (x9 ++ ((((x16 ++ x17) ++ x19) ++ x21) ++ x23)), (IntKind.i64.wrap (x10 + (1 : Int))), rfl, rfl, h13, hF⟩
    · skip
      refine Exec.ifF rfl hb ?_
      refine Exec.run tyOk 400 rfl ?_
      exact Exec.round [(3, .v (.string ⟨⟨x9⟩⟩))] ⟨rfl, trivial⟩ ⟨x9, rfl, rfl, hF⟩

def F_clockworklaw29_PlacementCodes (x1 : TPlacement) (x3 : Str) (x4 : Int) : Option Bool :=
  (bnd (F_clockworklaw29_few x1) fun x5 => (cond ((!x5) || (decide ((2000 : Int) < ((x3).length : Int)))) (bnd (F_clockworklaw29_works ) fun x6 => (some x6)) (bnd (F_placement_Decode x3 x4) fun x7 => (bnd (F_clockworkref29_Decode x3 x4) fun x11 => (bnd (F_placement_Encode x1) fun x16 => (bnd (F_clockworkref29_Encode x1) fun x17 => (bnd (gcall (((x16 == x17)) == true) (F_clockworkref29_Same x7.1 x11.1)) fun x18 => (bnd (gcall ((((((x16 == x17) && x18) && (x7.2.1 == x11.2.1)) && (x7.2.2 == x11.2.2))) == true) (F_clockworklaw29_works )) fun x19 => (some (((((x16 == x17) && x18) && (x7.2.1 == x11.2.1)) && (x7.2.2 == x11.2.2)) && x19))))))))))

set_option maxRecDepth 100000 in
theorem W_clockworklaw29_PlacementCodes {V : View} (x1 : TPlacement) (x3 : Str) (x4 : Int) {a2 : Option Addr} {k2 : Nat} (h2 : SlAt cTPart V a2 k2 x1.Parts) {r : Bool} (hF : F_clockworklaw29_PlacementCodes x1 x3 x4 = some r) :
    Spec Try.prog 9 [.agg ⟨[.int .i64 (x1.Version), .slice a2 ((x1.Parts).length) (k2)]⟩, .string ⟨⟨x3⟩⟩, .int .i64 (x4)] V (fun _ v => v = .bool (r)) := by
  unfold F_clockworklaw29_PlacementCodes at hF
  refine Spec.enter (T := tyT) Try.func9 rfl (by kernel_rfl) rfl rfl rfl ?_
  refine Exec.run tyOk 400 rfl ?_
  obtain ⟨x5, hx5, hF⟩ := bnd_some hF
  refine Exec.callS (.bool (x5)) rfl rfl (W_clockworklaw29_few x1 h2 hx5) ?_
  refine Exec.run tyOk 400 rfl ?_
  rcases cond_some hF with ⟨hb, hF⟩ | ⟨hb, hF⟩
  · skip
    refine Exec.ifT rfl hb ?_
    refine Exec.run tyOk 400 rfl ?_
    obtain ⟨x6, hx6, hF⟩ := bnd_some hF
    refine Exec.callS (.bool (x6)) rfl rfl (W_clockworklaw29_works   hx6) ?_
    refine Exec.run tyOk 400 rfl ?_
    obtain rfl := some_inj hF
    exact Exec.ret tyOk rfl rfl rfl
  · skip
    refine Exec.ifF rfl hb ?_
    refine Exec.run tyOk 400 rfl ?_
    obtain ⟨x7, hx7, hF⟩ := bnd_some hF
    refine Exec.call rfl rfl (W_placement_Decode x3 x4  hx7) ?_
    rintro V9 _ hv9 ⟨a8, k8, rfl, h8⟩
    have h10 := SlAt.mono h2 hv9
    refine Exec.run tyOk 400 rfl ?_
    obtain ⟨x11, hx11, hF⟩ := bnd_some hF
    refine Exec.call rfl rfl (W_clockworkref29_Decode x3 x4  hx11) ?_
    rintro V13 _ hv13 ⟨a12, k12, rfl, h12⟩
    have h14 := SlAt.mono h10 hv13
    have h15 := SlAt.mono h8 hv13
    refine Exec.run tyOk 400 rfl ?_
    refine Exec.draws tyOk [(0, true), (2, true), (1, false), (3, false), (4, false), (5, false), (6, true), (7, false), (8, false), (9, false), (10, false), (11, true), (12, false), (13, false), (14, false), (15, false), (16, true), (17, false), (18, false), (19, false), (20, false), (21, false), (22, false), (23, false)] rfl (by kernel_rfl) ?_
    refine Exec.run tyOk 400 rfl ?_
    obtain ⟨x16, hx16, hF⟩ := bnd_some hF
    refine Exec.callS (.string ⟨⟨x16⟩⟩) rfl rfl (W_placement_Encode x1 h14 hx16) ?_
    refine Exec.run tyOk 400 rfl ?_
    obtain ⟨x17, hx17, hF⟩ := bnd_some hF
    refine Exec.callS (.string ⟨⟨x17⟩⟩) rfl rfl (W_clockworkref29_Encode x1 h14 hx17) ?_
    refine Exec.run tyOk 400 rfl ?_
    obtain ⟨x18, hx18, hF⟩ := bnd_some hF
    refine Exec.callS (.bool (x18)) rfl rfl (fun gg0 => W_clockworkref29_Same x7.1 x11.1 h15 h12 (gcall_some hx18 (gd1_of gg0))) ?_
    refine Exec.run tyOk 400 rfl ?_
    obtain ⟨x19, hx19, hF⟩ := bnd_some hF
    refine Exec.callS (.bool (x19)) rfl rfl (fun gg0 => W_clockworklaw29_works   (gcall_some hx19 (gd1_of gg0))) ?_
    refine Exec.run tyOk 400 rfl ?_
    obtain rfl := some_inj hF
    exact Exec.ret tyOk rfl rfl rfl

def F_clockworklaw29_PlacementRoundTrips (x1 : TPlacement) (x3 : Str) : Option Bool :=
  (bnd (F_clockworklaw29_few x1) fun x4 => (cond ((!x4) || (decide ((2000 : Int) < ((x3).length : Int)))) (bnd (F_clockworklaw29_works ) fun x5 => (some x5)) (bnd (F_clockworkref29_Valid x1) fun x6 => (jn ((bnd (F_placement_Decode x3 ((0 : Int))) fun x9 => (cond (x9.2.2 != (0 : Int)) (bnd (gcall (((((((x9.1.Parts).length : Nat) : Int) == (0 : Int)) && (x9.2.1 == (0 : Int)))) == true) (F_clockworklaw29_works )) fun x12 => (some ((((((x9.1.Parts).length : Nat) : Int) == (0 : Int)) && (x9.2.1 == (0 : Int))) && x12))) (bnd (F_clockworkref29_Valid x9.1) fun x13 => (req (((((x13 && (decide ((1 : Int) ≤ x9.2.1))) && (decide (x9.2.1 ≤ ((x3).length : Int))))) == true) = true → 0 ≤ (0 : Int) ∧ (0 : Int) ≤ x9.2.1 ∧ x9.2.1 ≤ (((x3).length : Nat) : Int)) (bnd (gcall ((((x13 && (decide ((1 : Int) ≤ x9.2.1))) && (decide (x9.2.1 ≤ ((x3).length : Int))))) == true) (F_placement_Encode x9.1)) fun x15 => (bnd (gcall (((((x13 && (decide ((1 : Int) ≤ x9.2.1))) && (decide (x9.2.1 ≤ ((x3).length : Int)))) && (x15 == ((x3.take (x9.2.1).toNat).drop ((0 : Int)).toNat)))) == true) (F_clockworklaw29_works )) fun x16 => (some ((((x13 && (decide ((1 : Int) ≤ x9.2.1))) && (decide (x9.2.1 ≤ ((x3).length : Int)))) && (x15 == ((x3.take (x9.2.1).toNat).drop ((0 : Int)).toNat))) && x16))))))))) (fun J7 => (cond x6 (bnd (F_placement_Encode x1) fun x17 => (req ((x17).length + (x3).length ≤ 9223372036854775807) (bnd (F_placement_Decode ((x17 ++ x3)) ((0 : Int))) fun x19 => (bnd (gcall ((((x19.2.2 != (0 : Int)) || (x19.2.1 != ((x17).length : Int)))) == false) (F_clockworkref29_Same x1 x19.1)) fun x23 => (cond (((x19.2.2 != (0 : Int)) || (x19.2.1 != ((x17).length : Int))) || (!x23)) (some false) J7))))) J7))))))

set_option maxRecDepth 100000 in
theorem W_clockworklaw29_PlacementRoundTrips {V : View} (x1 : TPlacement) (x3 : Str) {a2 : Option Addr} {k2 : Nat} (h2 : SlAt cTPart V a2 k2 x1.Parts) {r : Bool} (hF : F_clockworklaw29_PlacementRoundTrips x1 x3 = some r) :
    Spec Try.prog 10 [.agg ⟨[.int .i64 (x1.Version), .slice a2 ((x1.Parts).length) (k2)]⟩, .string ⟨⟨x3⟩⟩] V (fun _ v => v = .bool (r)) := by
  unfold F_clockworklaw29_PlacementRoundTrips at hF
  refine Spec.enter (T := tyT) Try.func10 rfl (by kernel_rfl) rfl rfl rfl ?_
  refine Exec.run tyOk 400 rfl ?_
  obtain ⟨x4, hx4, hF⟩ := bnd_some hF
  refine Exec.callS (.bool (x4)) rfl rfl (W_clockworklaw29_few x1 h2 hx4) ?_
  refine Exec.run tyOk 400 rfl ?_
  rcases cond_some hF with ⟨hb, hF⟩ | ⟨hb, hF⟩
  · skip
    refine Exec.ifT rfl hb ?_
    refine Exec.run tyOk 400 rfl ?_
    obtain ⟨x5, hx5, hF⟩ := bnd_some hF
    refine Exec.callS (.bool (x5)) rfl rfl (W_clockworklaw29_works   hx5) ?_
    refine Exec.run tyOk 400 rfl ?_
    obtain rfl := some_inj hF
    exact Exec.ret tyOk rfl rfl rfl
  · skip
    refine Exec.ifF rfl hb ?_
    refine Exec.run tyOk 400 rfl ?_
    obtain ⟨x6, hx6, hF⟩ := bnd_some hF
    refine Exec.callS (.bool (x6)) rfl rfl (W_clockworkref29_Valid x1 h2 hx6) ?_
    refine Exec.run tyOk 400 rfl ?_
    obtain ⟨J7, hJ7, hF⟩ := jn_some hF
    refine Exec.seam (fun L' V' M' => L' = [(1, .v (.string ⟨⟨x3⟩⟩))] ∧ M' = [] ∧ J7 = some r) rfl ?_ ?_
    · rintro L' V8 M' ⟨rfl, rfl, hF⟩
      subst hJ7
      refine Exec.run tyOk 400 rfl ?_
      obtain ⟨x9, hx9, hF⟩ := bnd_some hF
      refine Exec.call rfl rfl (W_placement_Decode x3 ((0 : Int))  hx9) ?_
      rintro V11 _ hv11 ⟨a10, k10, rfl, h10⟩
      refine Exec.run tyOk 400 rfl ?_
      rcases cond_some hF with ⟨hb, hF⟩ | ⟨hb, hF⟩
      · skip
        refine Exec.ifT rfl hb ?_
        refine Exec.run tyOk 400 rfl ?_
        obtain ⟨x12, hx12, hF⟩ := bnd_some hF
        refine Exec.callS (.bool (x12)) rfl rfl (fun gg0 => W_clockworklaw29_works   (gcall_some hx12 (gd1_of gg0))) ?_
        refine Exec.run tyOk 400 rfl ?_
        obtain rfl := some_inj hF
        exact Exec.ret tyOk rfl rfl rfl
      · skip
        refine Exec.ifF rfl hb ?_
        refine Exec.run tyOk 400 rfl ?_
        refine Exec.draws tyOk [(0, true), (1, false), (2, false), (3, false), (4, false), (5, false), (6, false), (7, true), (8, false), (9, false), (10, false), (11, false), (12, false), (13, true), (15, true), (16, true), (17, true), (14, false), (18, false), (19, false), (20, false), (21, false), (22, false), (23, false)] rfl (by kernel_rfl) ?_
        refine Exec.run tyOk 400 rfl ?_
        obtain ⟨x13, hx13, hF⟩ := bnd_some hF
        refine Exec.callS (.bool (x13)) rfl rfl (W_clockworkref29_Valid x9.1 h10 hx13) ?_
        refine Exec.run tyOk 400 rfl ?_
        obtain ⟨q14, hF⟩ := req_some hF
        refine Exec.fssl tyOk (r := ((x3.take (x9.2.1).toNat).drop ((0 : Int)).toNat)) rfl rfl rfl (fun gg0 => q14 (gd1_of gg0)) rfl ?_
        refine Exec.run tyOk 400 rfl ?_
        obtain ⟨x15, hx15, hF⟩ := bnd_some hF
        refine Exec.callS (.string ⟨⟨x15⟩⟩) rfl rfl (fun gg0 => W_placement_Encode x9.1 h10 (gcall_some hx15 (gd1_of gg0))) ?_
        refine Exec.run tyOk 400 rfl ?_
        obtain ⟨x16, hx16, hF⟩ := bnd_some hF
        refine Exec.callS (.bool (x16)) rfl rfl (fun gg0 => W_clockworklaw29_works   (gcall_some hx16 (gd1_of gg0))) ?_
        refine Exec.run tyOk 400 rfl ?_
        obtain rfl := some_inj hF
        exact Exec.ret tyOk rfl rfl rfl
    · skip
      refine Exec.run tyOk 400 rfl ?_
      rcases cond_some hF with ⟨hb, hF⟩ | ⟨hb, hF⟩
      · skip
        refine Exec.ifT rfl hb ?_
        refine Exec.run tyOk 400 rfl ?_
        obtain ⟨x17, hx17, hF⟩ := bnd_some hF
        refine Exec.callS (.string ⟨⟨x17⟩⟩) rfl rfl (W_placement_Encode x1 h2 hx17) ?_
        refine Exec.run tyOk 400 rfl ?_
        obtain ⟨q18, hF⟩ := req_some hF
        refine Exec.cat rfl rfl q18 ?_
        refine Exec.run tyOk 400 rfl ?_
        obtain ⟨x19, hx19, hF⟩ := bnd_some hF
        refine Exec.call rfl rfl (W_placement_Decode ((x17 ++ x3)) ((0 : Int))  hx19) ?_
        rintro V21 _ hv21 ⟨a20, k20, rfl, h20⟩
        have h22 := SlAt.mono h2 hv21
        refine Exec.run tyOk 400 rfl ?_
        obtain ⟨x23, hx23, hF⟩ := bnd_some hF
        refine Exec.callS (.bool (x23)) rfl rfl (fun gg0 => W_clockworkref29_Same x1 x19.1 h22 h20 (gcall_some hx23 (gd1_of gg0))) ?_
        refine Exec.run tyOk 400 rfl ?_
        rcases cond_some hF with ⟨hb, hF⟩ | ⟨hb, hF⟩
        · skip
          refine Exec.ifT rfl hb ?_
          refine Exec.run tyOk 400 rfl ?_
          obtain rfl := some_inj hF
          exact Exec.ret tyOk rfl rfl rfl
        · skip
          refine Exec.ifF rfl hb ?_
          refine Exec.run tyOk 400 rfl ?_
          refine Exec.cut 0 [(1, .v (.string ⟨⟨x3⟩⟩))] (M' := []) rfl ⟨rfl, trivial⟩ rfl rfl rfl ?_
          exact Exec.round [(1, .v (.string ⟨⟨x3⟩⟩))] ⟨rfl, trivial⟩ ⟨rfl, rfl, hF⟩
      · skip
        refine Exec.ifF rfl hb ?_
        refine Exec.run tyOk 400 rfl ?_
        refine Exec.cut 0 [(1, .v (.string ⟨⟨x3⟩⟩))] (M' := []) rfl ⟨rfl, trivial⟩ rfl rfl rfl ?_
        exact Exec.round [(1, .v (.string ⟨⟨x3⟩⟩))] ⟨rfl, trivial⟩ ⟨rfl, rfl, hF⟩

end Go.Proofs.Ytdkakeiccefbgaa
