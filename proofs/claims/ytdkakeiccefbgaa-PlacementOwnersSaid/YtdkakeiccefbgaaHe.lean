/-
  Functions of the program as their counterparts say them (printed by a program).
  Conditions: none.
-/
import Derived.Test.YtdkakeiccefbgaaHd
set_option linter.all false
namespace Go.Proofs.Ytdkakeiccefbgaa

def F_wire_TakeCount (x1 : Str) (x2 : Int) (x3 : Int) : Option (Int × Int × Int) :=
  (bnd (F_wire_TakeUint x1 x2) fun x4 => (cond (x4.2.2 != (0 : Int)) (some ((0 : Int), (0 : Int), x4.2.2)) (cond ((decide (x3 < (0 : Int))) || (decide ((IntKind.u64.wrap x3) < x4.1))) (some ((0 : Int), (0 : Int), (2 : Int))) (cond (decide ((IntKind.u64.wrap (IntKind.i64.wrap (((x1).length : Int) - x4.2.1))) < x4.1)) (some ((0 : Int), (0 : Int), (6 : Int))) (some ((IntKind.i64.wrap x4.1), x4.2.1, (0 : Int)))))))

set_option maxRecDepth 100000 in
theorem W_wire_TakeCount {V : View} (x1 : Str) (x2 : Int) (x3 : Int)   {r : Int × Int × Int} (hF : F_wire_TakeCount x1 x2 x3 = some r) :
    Spec Try.prog 50 [.string ⟨⟨x1⟩⟩, .int .i64 (x2), .int .i64 (x3)] V (fun _ v => v = .tuple ⟨[.int .i64 (r.1), .int .i64 (r.2.1), .int .i64 (r.2.2)]⟩) := by
  unfold F_wire_TakeCount at hF
  refine Spec.enter (T := tyT) Try.func50 rfl (by kernel_rfl) rfl rfl rfl ?_
  refine Exec.run tyOk 400 rfl ?_
  obtain ⟨x4, hx4, hF⟩ := bnd_some hF
  refine Exec.callS (.tuple ⟨[.int .u64 (x4.1), .int .i64 (x4.2.1), .int .i64 (x4.2.2)]⟩) rfl rfl (W_wire_TakeUint x1 x2  hx4) ?_
  refine Exec.run tyOk 400 rfl ?_
  rcases cond_some hF with ⟨hb, hF⟩ | ⟨hb, hF⟩
  · skip
    refine Exec.ifT rfl hb ?_
    refine Exec.run tyOk 400 rfl ?_
    obtain rfl := some_inj hF
    exact Exec.ret tyOk rfl rfl rfl
  · skip
    refine Exec.ifF rfl hb ?_
    refine Exec.run tyOk 400 rfl ?_
    rcases cond_some hF with ⟨hb, hF⟩ | ⟨hb, hF⟩
    · skip
      refine Exec.ifT rfl hb ?_
      refine Exec.run tyOk 400 rfl ?_
      obtain rfl := some_inj hF
      exact Exec.ret tyOk rfl rfl rfl
    · skip
      refine Exec.ifF rfl hb ?_
      refine Exec.run tyOk 400 rfl ?_
      rcases cond_some hF with ⟨hb, hF⟩ | ⟨hb, hF⟩
      · skip
        refine Exec.ifT rfl hb ?_
        refine Exec.run tyOk 400 rfl ?_
        obtain rfl := some_inj hF
        exact Exec.ret tyOk rfl rfl rfl
      · skip
        refine Exec.ifF rfl hb ?_
        refine Exec.run tyOk 400 rfl ?_
        obtain rfl := some_inj hF
        exact Exec.ret tyOk rfl rfl rfl

def F_wire_TakeInt (x1 : Str) (x2 : Int) : Option (Int × Int × Int) :=
  (bnd (F_wire_TakeUint x1 x2) fun x3 => (cond (x3.2.2 != (0 : Int)) (some ((0 : Int), (0 : Int), x3.2.2)) (req (0 ≤ (1 : Int)) (some ((bits .xor .i64 (IntKind.i64.wrap (shrI .u64 x3.1 (1 : Int))) (IntKind.i64.wrap ((0 : Int) - (IntKind.i64.wrap (bits .and .u64 x3.1 (1 : Int)))))), x3.2.1, (0 : Int))))))

set_option maxRecDepth 100000 in
theorem W_wire_TakeInt {V : View} (x1 : Str) (x2 : Int)   {r : Int × Int × Int} (hF : F_wire_TakeInt x1 x2 = some r) :
    Spec Try.prog 67 [.string ⟨⟨x1⟩⟩, .int .i64 (x2)] V (fun _ v => v = .tuple ⟨[.int .i64 (r.1), .int .i64 (r.2.1), .int .i64 (r.2.2)]⟩) := by
  unfold F_wire_TakeInt at hF
  refine Spec.enter (T := tyT) Try.func67 rfl (by kernel_rfl) rfl rfl rfl ?_
  refine Exec.run tyOk 400 rfl ?_
  obtain ⟨x3, hx3, hF⟩ := bnd_some hF
  refine Exec.callS (.tuple ⟨[.int .u64 (x3.1), .int .i64 (x3.2.1), .int .i64 (x3.2.2)]⟩) rfl rfl (W_wire_TakeUint x1 x2  hx3) ?_
  refine Exec.run tyOk 400 rfl ?_
  rcases cond_some hF with ⟨hb, hF⟩ | ⟨hb, hF⟩
  · skip
    refine Exec.ifT rfl hb ?_
    refine Exec.run tyOk 400 rfl ?_
    obtain rfl := some_inj hF
    exact Exec.ret tyOk rfl rfl rfl
  · skip
    refine Exec.ifF rfl hb ?_
    refine Exec.run tyOk 400 rfl ?_
    obtain ⟨q4, hF⟩ := req_some hF
    refine Exec.ari rfl rfl q4 ?_
    refine Exec.run tyOk 400 rfl ?_
    obtain rfl := some_inj hF
    exact Exec.ret tyOk rfl rfl rfl

def F_wire_TakeText (x1 : Str) (x2 : Int) (x3 : Int) : Option (Str × Int × Int) :=
  (bnd (F_wire_TakeCount x1 x2 x3) fun x4 => (cond (x4.2.2 != (0 : Int)) (some (([] : Str), (0 : Int), x4.2.2)) (req (0 ≤ x4.2.1 ∧ x4.2.1 ≤ (IntKind.i64.wrap (x4.2.1 + x4.1)) ∧ (IntKind.i64.wrap (x4.2.1 + x4.1)) ≤ (((x1).length : Nat) : Int)) (some (((x1.take ((IntKind.i64.wrap (x4.2.1 + x4.1))).toNat).drop (x4.2.1).toNat), (IntKind.i64.wrap (x4.2.1 + x4.1)), (0 : Int))))))

set_option maxRecDepth 100000 in
theorem W_wire_TakeText {V : View} (x1 : Str) (x2 : Int) (x3 : Int)   {r : Str × Int × Int} (hF : F_wire_TakeText x1 x2 x3 = some r) :
    Spec Try.prog 69 [.string ⟨⟨x1⟩⟩, .int .i64 (x2), .int .i64 (x3)] V (fun _ v => v = .tuple ⟨[.string ⟨⟨r.1⟩⟩, .int .i64 (r.2.1), .int .i64 (r.2.2)]⟩) := by
  unfold F_wire_TakeText at hF
  refine Spec.enter (T := tyT) Try.func69 rfl (by kernel_rfl) rfl rfl rfl ?_
  refine Exec.run tyOk 400 rfl ?_
  obtain ⟨x4, hx4, hF⟩ := bnd_some hF
  refine Exec.callS (.tuple ⟨[.int .i64 (x4.1), .int .i64 (x4.2.1), .int .i64 (x4.2.2)]⟩) rfl rfl (W_wire_TakeCount x1 x2 x3  hx4) ?_
  refine Exec.run tyOk 400 rfl ?_
  rcases cond_some hF with ⟨hb, hF⟩ | ⟨hb, hF⟩
  · skip
    refine Exec.ifT rfl hb ?_
    refine Exec.run tyOk 400 rfl ?_
    obtain rfl := some_inj hF
    exact Exec.ret tyOk rfl rfl rfl
  · skip
    refine Exec.ifF rfl hb ?_
    refine Exec.run tyOk 400 rfl ?_
    obtain ⟨q5, hF⟩ := req_some hF
    refine Exec.ssl tyOk (r := ((x1.take ((IntKind.i64.wrap (x4.2.1 + x4.1))).toNat).drop (x4.2.1).toNat)) rfl rfl q5 rfl ?_
    refine Exec.run tyOk 400 rfl ?_
    obtain rfl := some_inj hF
    exact Exec.ret tyOk rfl rfl rfl

def F_clockworklaw29_works  : Option Bool :=
  (bnd (F_placement_New ((1 : Int))) fun x1 => (bnd (F_placement_Split x1.1 ((1 : Int)) (([109] : Str)) ((2 : Int))) fun x4 => (bnd (F_placement_Range x4.1 ((1 : Int))) fun x8 => (bnd (F_placement_Split ((⟨0, ([(⟨(1 : Int), [], (1 : Int), (2 : Int), ([103] : Str)⟩ : TPart)] : List TPart)⟩ : TPlacement)) ((1 : Int)) (([107] : Str)) ((2 : Int))) fun x12 => (bnd (F_placement_Merge x4.1 ((1 : Int))) fun x18 => (cond (((((((x1.2 != (0 : Int)) || (x4.2 != (0 : Int))) || (x8.2 != (0 : Int))) || (x12.2 != (19 : Int))) || (x18.2 != (0 : Int))) || ((((x18.1.Parts).length : Nat) : Int) != (1 : Int))) || (x18.1.Version != (2 : Int))) (some false) (bnd (F_placement_Valid x4.1) fun x25 => (bnd (gcall ((x25) == true) (F_placement_Index x4.1 (([109] : Str)))) fun x26 => (bnd (gcall (((x25 && (x26 == (1 : Int)))) == true) (F_placement_Index x4.1 (([108, 122] : Str)))) fun x27 => (bnd (gcall (((((x25 && (x26 == (1 : Int))) && (x27 == (0 : Int))) && ((x8.1.From == []) && ((x8.1.To == ([109] : Str)) && true)))) == true) (F_placement_Owner ((⟨0, ([(⟨(1 : Int), [], (1 : Int), (2 : Int), ([103] : Str)⟩ : TPart)] : List TPart)⟩ : TPlacement)) (([102] : Str)))) fun x28 => (bnd (gcall ((((((x25 && (x26 == (1 : Int))) && (x27 == (0 : Int))) && ((x8.1.From == []) && ((x8.1.To == ([109] : Str)) && true))) && (x28 == (2 : Int)))) == true) (F_placement_Owner ((⟨0, ([(⟨(1 : Int), [], (1 : Int), (2 : Int), ([103] : Str)⟩ : TPart)] : List TPart)⟩ : TPlacement)) (([103] : Str)))) fun x29 => (bnd (gcall (((((((x25 && (x26 == (1 : Int))) && (x27 == (0 : Int))) && ((x8.1.From == []) && ((x8.1.To == ([109] : Str)) && true))) && (x28 == (2 : Int))) && (x29 == (1 : Int)))) == true) (F_placement_Nodes ((⟨0, ([(⟨(1 : Int), [], (1 : Int), (2 : Int), ([103] : Str)⟩ : TPart)] : List TPart)⟩ : TPlacement)))) fun x30 => (bnd (gcall (((((((x25 && (x26 == (1 : Int))) && (x27 == (0 : Int))) && ((x8.1.From == []) && ((x8.1.To == ([109] : Str)) && true))) && (x28 == (2 : Int))) && (x29 == (1 : Int)))) == true) (F_clockworkref23_Ints x30 (([(1 : Int), (2 : Int)] : List Int)))) fun x45 => (some ((((((x25 && (x26 == (1 : Int))) && (x27 == (0 : Int))) && ((x8.1.From == []) && ((x8.1.To == ([109] : Str)) && true))) && (x28 == (2 : Int))) && (x29 == (1 : Int))) && x45)))))))))))))))

set_option maxRecDepth 100000 in
theorem W_clockworklaw29_works {V : View}    {r : Bool} (hF : F_clockworklaw29_works  = some r) :
    Spec Try.prog 12 [] V (fun _ v => v = .bool (r)) := by
  unfold F_clockworklaw29_works at hF
  refine Spec.enter (T := tyT) Try.func12 rfl (by kernel_rfl) rfl rfl rfl ?_
  refine Exec.run tyOk 400 rfl ?_
  obtain ⟨x1, hx1, hF⟩ := bnd_some hF
  refine Exec.call rfl rfl (W_placement_New ((1 : Int))  hx1) ?_
  rintro V3 _ hv3 ⟨a2, k2, rfl, h2⟩
  refine Exec.run tyOk 400 rfl ?_
  obtain ⟨x4, hx4, hF⟩ := bnd_some hF
  refine Exec.call rfl rfl (W_placement_Split x1.1 ((1 : Int)) (([109] : Str)) ((2 : Int)) h2 hx4) ?_
  rintro V6 _ hv6 ⟨a5, k5, rfl, h5⟩
  have h7 := SlAt.mono h2 hv6
  refine Exec.run tyOk 400 rfl ?_
  obtain ⟨x8, hx8, hF⟩ := bnd_some hF
  refine Exec.callS (.tuple ⟨[.agg ⟨[.string ⟨⟨x8.1.From⟩⟩, .string ⟨⟨x8.1.To⟩⟩]⟩, .int .i64 (x8.2)]⟩) rfl rfl (W_placement_Range x4.1 ((1 : Int)) h5 hx8) ?_
  refine Exec.run tyOk 400 rfl ?_
  refine Exec.bsV tyOk rfl rfl rfl rfl rfl (fun V9 a9 hv9 hd9 => ?_)
  have h10 := SlAt.mono h7 hv9
  have h11 := SlAt.mono h5 hv9
  have h9 : SlAt cTPart V9 (some a9) 1 ([(⟨(1 : Int), [], (1 : Int), (2 : Int), ([103] : Str)⟩ : TPart)] : List TPart) := RowRep.slat (c := cTPart) (V := V9) (cs := [.int .i64 ((1 : Int)), .string ⟨⟨[]⟩⟩, .int .i64 ((1 : Int)), .int .i64 ((2 : Int)), .string ⟨⟨([103] : Str)⟩⟩]) ⟨_, _, rfl, rfl, rfl⟩ (VLe.refl _) (fun _ => hd9) (by simp)
  refine Exec.run tyOk 400 rfl ?_
  obtain ⟨x12, hx12, hF⟩ := bnd_some hF
  refine Exec.call rfl rfl (W_placement_Split ((⟨0, ([(⟨(1 : Int), [], (1 : Int), (2 : Int), ([103] : Str)⟩ : TPart)] : List TPart)⟩ : TPlacement)) ((1 : Int)) (([107] : Str)) ((2 : Int)) h9 hx12) ?_
  rintro V14 _ hv14 ⟨a13, k13, rfl, h13⟩
  have h15 := SlAt.mono h10 hv14
  have h16 := SlAt.mono h11 hv14
  have h17 := SlAt.mono h9 hv14
  refine Exec.run tyOk 400 rfl ?_
  obtain ⟨x18, hx18, hF⟩ := bnd_some hF
  refine Exec.call rfl rfl (W_placement_Merge x4.1 ((1 : Int)) h16 hx18) ?_
  rintro V20 _ hv20 ⟨a19, k19, rfl, h19⟩
  have h21 := SlAt.mono h15 hv20
  have h22 := SlAt.mono h16 hv20
  have h23 := SlAt.mono h17 hv20
  have h24 := SlAt.mono h13 hv20
  refine Exec.run tyOk 400 rfl ?_
  rcases cond_some hF with ⟨hb, hF⟩ | ⟨hb, hF⟩
  · skip
    refine Exec.ifT rfl hb ?_
    refine Exec.run tyOk 400 rfl ?_
    obtain rfl := some_inj hF
    exact Exec.ret tyOk rfl rfl rfl
  · skip
    refine Exec.ifF rfl hb ?_
    refine Exec.run tyOk 400 rfl ?_
    obtain ⟨x25, hx25, hF⟩ := bnd_some hF
    refine Exec.callS (.bool (x25)) rfl rfl (W_placement_Valid x4.1 h22 hx25) ?_
    refine Exec.run tyOk 400 rfl ?_
    obtain ⟨x26, hx26, hF⟩ := bnd_some hF
    refine Exec.callS (.int .i64 (x26)) rfl rfl (fun gg0 => W_placement_Index x4.1 (([109] : Str)) h22 (gcall_some hx26 (gd1_of gg0))) ?_
    refine Exec.run tyOk 400 rfl ?_
    obtain ⟨x27, hx27, hF⟩ := bnd_some hF
    refine Exec.callS (.int .i64 (x27)) rfl rfl (fun gg0 => W_placement_Index x4.1 (([108, 122] : Str)) h22 (gcall_some hx27 (gd1_of gg0))) ?_
    refine Exec.run tyOk 400 rfl ?_
    obtain ⟨x28, hx28, hF⟩ := bnd_some hF
    refine Exec.callS (.int .i64 (x28)) rfl rfl (fun gg0 => W_placement_Owner ((⟨0, ([(⟨(1 : Int), [], (1 : Int), (2 : Int), ([103] : Str)⟩ : TPart)] : List TPart)⟩ : TPlacement)) (([102] : Str)) h23 (gcall_some hx28 (gd1_of gg0))) ?_
    refine Exec.run tyOk 400 rfl ?_
    obtain ⟨x29, hx29, hF⟩ := bnd_some hF
    refine Exec.callS (.int .i64 (x29)) rfl rfl (fun gg0 => W_placement_Owner ((⟨0, ([(⟨(1 : Int), [], (1 : Int), (2 : Int), ([103] : Str)⟩ : TPart)] : List TPart)⟩ : TPlacement)) (([103] : Str)) h23 (gcall_some hx29 (gd1_of gg0))) ?_
    refine Exec.run tyOk 400 rfl ?_
    obtain ⟨x30, hx30, hF⟩ := bnd_some hF
    refine Exec.callG (fun y : Option Addr × Nat => .slice y.1 ((x30).length) (y.2)) (none, 0) (R := fun V' y => SlAt (cInt .i64) V' y.1 y.2 x30) rfl rfl rfl (fun gg0 => (W_placement_Nodes ((⟨0, ([(⟨(1 : Int), [], (1 : Int), (2 : Int), ([103] : Str)⟩ : TPart)] : List TPart)⟩ : TPlacement)) h23 (gcall_some hx30 (gd1_of gg0))).mono (fun V' _ _ ⟨a31, k31, e1, h31⟩ => ⟨⟨a31, k31⟩, e1, h31⟩)) ?_
    rintro V32 ⟨a31, k31⟩ hv32 hg32
    have h31 : SlAt (cInt .i64) V32 a31 k31 x30 := gslat1 hx30 (fun gg0 => (hg32 gg0))
    have h33 := SlAt.mono h21 hv32
    have h34 := SlAt.mono h22 hv32
    have h35 := SlAt.mono h23 hv32
    have h36 := SlAt.mono h24 hv32
    have h37 := SlAt.mono h19 hv32
    refine Exec.run tyOk 400 rfl ?_
    refine Exec.gbsV tyOk rfl rfl rfl rfl (fun V38 a38 hv38 hg38 => ?_) rfl
    have h39 := SlAt.mono h33 hv38
    have h40 := SlAt.mono h34 hv38
    have h41 := SlAt.mono h35 hv38
    have h42 := SlAt.mono h36 hv38
    have h43 := SlAt.mono h37 hv38
    have h44 := SlAt.mono h31 hv38
    have h38 : ((((((x25 && (x26 == (1 : Int))) && (x27 == (0 : Int))) && ((x8.1.From == []) && ((x8.1.To == ([109] : Str)) && true))) && (x28 == (2 : Int))) && (x29 == (1 : Int)))) = true → SlAt (cInt .i64) V38 ((some a38)) 2 (([(1 : Int), (2 : Int)] : List Int)) := fun gg0 => RowRep.slat (c := (cInt .i64)) (V := V38) (cs := [.int .i64 ((1 : Int)), .int .i64 ((2 : Int))]) ⟨_, _, rfl, rfl, ⟨_, _, rfl, rfl, rfl⟩⟩ (VLe.refl _) (fun _ => hg38 gg0) (by simp)
    refine Exec.run tyOk 400 rfl ?_
    obtain ⟨x45, hx45, hF⟩ := bnd_some hF
    refine Exec.callS (.bool (x45)) rfl rfl (fun gg0 => W_clockworkref23_Ints x30 (([(1 : Int), (2 : Int)] : List Int)) h44 (h38 gg0) (gcall_some hx45 (gd1_of gg0))) ?_
    refine Exec.run tyOk 400 rfl ?_
    obtain rfl := some_inj hF
    exact Exec.ret tyOk rfl rfl rfl

def F_clockworklaw29_PlacementValid (x1 : TPlacement) (x3 : Int) : Option Bool :=
  (bnd (F_clockworklaw29_few x1) fun x4 => (cond (!x4) (bnd (F_clockworklaw29_works ) fun x5 => (some x5)) (bnd (F_placement_New x3) fun x6 => (bnd (F_clockworkref29_New x3) fun x10 => (bnd (F_placement_Valid x1) fun x15 => (bnd (F_clockworkref29_Valid x1) fun x16 => (bnd (gcall (((x15 == x16)) == true) (F_clockworkref29_Same x6.1 x10.1)) fun x17 => (bnd (gcall (((((x15 == x16) && x17) && (x6.2 == x10.2))) == true) (F_placement_Valid x6.1)) fun x18 => (bnd (gcall ((((((x15 == x16) && x17) && (x6.2 == x10.2)) && (x18 == (x6.2 == (0 : Int))))) == true) (F_clockworklaw29_works )) fun x19 => (some (((((x15 == x16) && x17) && (x6.2 == x10.2)) && (x18 == (x6.2 == (0 : Int)))) && x19)))))))))))

set_option maxRecDepth 100000 in
theorem W_clockworklaw29_PlacementValid {V : View} (x1 : TPlacement) (x3 : Int) {a2 : Option Addr} {k2 : Nat} (h2 : SlAt cTPart V a2 k2 x1.Parts) {r : Bool} (hF : F_clockworklaw29_PlacementValid x1 x3 = some r) :
    Spec Try.prog 3 [.agg ⟨[.int .i64 (x1.Version), .slice a2 ((x1.Parts).length) (k2)]⟩, .int .i64 (x3)] V (fun _ v => v = .bool (r)) := by
  unfold F_clockworklaw29_PlacementValid at hF
  refine Spec.enter (T := tyT) Try.func3 rfl (by kernel_rfl) rfl rfl rfl ?_
  refine Exec.run tyOk 400 rfl ?_
  obtain ⟨x4, hx4, hF⟩ := bnd_some hF
  refine Exec.callS (.bool (x4)) rfl rfl (W_clockworklaw29_few x1 h2 hx4) ?_
  refine Exec.run tyOk 400 rfl ?_
  rcases cond_some hF with ⟨hb, hF⟩ | ⟨hb, hF⟩
  · skip
    refine Exec.ifT rfl hb ?_
    refine Exec.run tyOk 400 rfl ?_
    obtain ⟨x5, hx5, hF⟩ := bnd_some hF
    refine Exec.callS (.bool (x5)) rfl rfl (W_clockworklaw29_works   hx5) ?_
    refine Exec.run tyOk 400 rfl ?_
    obtain rfl := some_inj hF
    exact Exec.ret tyOk rfl rfl rfl
  · skip
    refine Exec.ifF rfl hb ?_
    refine Exec.run tyOk 400 rfl ?_
    obtain ⟨x6, hx6, hF⟩ := bnd_some hF
    refine Exec.call rfl rfl (W_placement_New x3  hx6) ?_
    rintro V8 _ hv8 ⟨a7, k7, rfl, h7⟩
    have h9 := SlAt.mono h2 hv8
    refine Exec.run tyOk 400 rfl ?_
    obtain ⟨x10, hx10, hF⟩ := bnd_some hF
    refine Exec.call rfl rfl (W_clockworkref29_New x3  hx10) ?_
    rintro V12 _ hv12 ⟨a11, k11, rfl, h11⟩
    have h13 := SlAt.mono h9 hv12
    have h14 := SlAt.mono h7 hv12
    refine Exec.run tyOk 400 rfl ?_
    refine Exec.draws tyOk [(0, true), (2, true), (1, false), (3, false), (4, false), (5, false), (6, true), (7, false), (8, false), (9, false), (10, false), (11, true), (12, false), (13, false), (14, false), (15, false), (16, true), (18, true), (19, true), (17, false), (20, false), (21, false), (22, false), (23, false), (24, false), (25, false)] rfl (by kernel_rfl) ?_
    refine Exec.run tyOk 400 rfl ?_
    obtain ⟨x15, hx15, hF⟩ := bnd_some hF
    refine Exec.callS (.bool (x15)) rfl rfl (W_placement_Valid x1 h13 hx15) ?_
    refine Exec.run tyOk 400 rfl ?_
    obtain ⟨x16, hx16, hF⟩ := bnd_some hF
    refine Exec.callS (.bool (x16)) rfl rfl (W_clockworkref29_Valid x1 h13 hx16) ?_
    refine Exec.run tyOk 400 rfl ?_
    obtain ⟨x17, hx17, hF⟩ := bnd_some hF
    refine Exec.callS (.bool (x17)) rfl rfl (fun gg0 => W_clockworkref29_Same x6.1 x10.1 h14 h11 (gcall_some hx17 (gd1_of gg0))) ?_
    refine Exec.run tyOk 400 rfl ?_
    obtain ⟨x18, hx18, hF⟩ := bnd_some hF
    refine Exec.callS (.bool (x18)) rfl rfl (fun gg0 => W_placement_Valid x6.1 h14 (gcall_some hx18 (gd1_of gg0))) ?_
    refine Exec.run tyOk 400 rfl ?_
    obtain ⟨x19, hx19, hF⟩ := bnd_some hF
    refine Exec.callS (.bool (x19)) rfl rfl (fun gg0 => W_clockworklaw29_works   (gcall_some hx19 (gd1_of gg0))) ?_
    refine Exec.run tyOk 400 rfl ?_
    obtain rfl := some_inj hF
    exact Exec.ret tyOk rfl rfl rfl

def F_clockworklaw29_PlacementReads (x1 : TPlacement) (x3 : Int) (x4 : Str) : Option Bool :=
  (bnd (F_clockworklaw29_few x1) fun x5 => (cond ((!x5) || (decide ((100 : Int) < ((x4).length : Int)))) (bnd (F_clockworklaw29_works ) fun x6 => (some x6)) (bnd (F_placement_Range x1 x3) fun x7 => (bnd (F_clockworkref29_Range x1 x3) fun x8 => (bnd (F_placement_Index x1 x4) fun x9 => (bnd (F_clockworkref29_Index x1 x4) fun x10 => (bnd (gcall (((((x9 == x10) && ((x7.1.From == x8.1.From) && ((x7.1.To == x8.1.To) && true))) && (x7.2 == x8.2))) == true) (F_placement_Owner x1 x4)) fun x11 => (bnd (gcall (((((x9 == x10) && ((x7.1.From == x8.1.From) && ((x7.1.To == x8.1.To) && true))) && (x7.2 == x8.2))) == true) (F_clockworkref29_Owner x1 x4)) fun x12 => (bnd (gcall ((((((x9 == x10) && ((x7.1.From == x8.1.From) && ((x7.1.To == x8.1.To) && true))) && (x7.2 == x8.2)) && (x11 == x12))) == true) (F_placement_Nodes x1)) fun x13 => (bnd (gcall ((((((x9 == x10) && ((x7.1.From == x8.1.From) && ((x7.1.To == x8.1.To) && true))) && (x7.2 == x8.2)) && (x11 == x12))) == true) (F_clockworkref29_Nodes x1)) fun x17 => (bnd (gcall ((((((x9 == x10) && ((x7.1.From == x8.1.From) && ((x7.1.To == x8.1.To) && true))) && (x7.2 == x8.2)) && (x11 == x12))) == true) (F_clockworkref23_Ints x13 x17)) fun x22 => (bnd (gcall (((((((x9 == x10) && ((x7.1.From == x8.1.From) && ((x7.1.To == x8.1.To) && true))) && (x7.2 == x8.2)) && (x11 == x12)) && x22)) == true) (F_clockworklaw29_works )) fun x23 => (some ((((((x9 == x10) && ((x7.1.From == x8.1.From) && ((x7.1.To == x8.1.To) && true))) && (x7.2 == x8.2)) && (x11 == x12)) && x22) && x23))))))))))))))

set_option maxRecDepth 100000 in
theorem W_clockworklaw29_PlacementReads {V : View} (x1 : TPlacement) (x3 : Int) (x4 : Str) {a2 : Option Addr} {k2 : Nat} (h2 : SlAt cTPart V a2 k2 x1.Parts) {r : Bool} (hF : F_clockworklaw29_PlacementReads x1 x3 x4 = some r) :
    Spec Try.prog 4 [.agg ⟨[.int .i64 (x1.Version), .slice a2 ((x1.Parts).length) (k2)]⟩, .int .i64 (x3), .string ⟨⟨x4⟩⟩] V (fun _ v => v = .bool (r)) := by
  unfold F_clockworklaw29_PlacementReads at hF
  refine Spec.enter (T := tyT) Try.func4 rfl (by kernel_rfl) rfl rfl rfl ?_
  refine Exec.run tyOk 400 rfl ?_
  obtain ⟨x5, hx5, hF⟩ := bnd_some hF
  refine Exec.callS (.bool (x5)) rfl rfl (W_clockworklaw29_few x1 h2 hx5) ?_
  refine Exec.run tyOk 400 rfl ?_
  rcases cond_some hF with ⟨hb, hF⟩ | ⟨hb, hF⟩
  · skip
    refine Exec.ifT rfl hb ?_
    refine Exec.run tyOk 400 rfl ?_
    obtain ⟨x6, hx6, hF⟩ := bnd_some hF
    refine Exec.callS (.bool (x6)) rfl rfl (W_clockworklaw29_works   hx6) ?_
    refine Exec.run tyOk 400 rfl ?_
    obtain rfl := some_inj hF
    exact Exec.ret tyOk rfl rfl rfl
  · skip
    refine Exec.ifF rfl hb ?_
    refine Exec.run tyOk 400 rfl ?_
    obtain ⟨x7, hx7, hF⟩ := bnd_some hF
    refine Exec.callS (.tuple ⟨[.agg ⟨[.string ⟨⟨x7.1.From⟩⟩, .string ⟨⟨x7.1.To⟩⟩]⟩, .int .i64 (x7.2)]⟩) rfl rfl (W_placement_Range x1 x3 h2 hx7) ?_
    refine Exec.run tyOk 400 rfl ?_
    obtain ⟨x8, hx8, hF⟩ := bnd_some hF
    refine Exec.callS (.tuple ⟨[.agg ⟨[.string ⟨⟨x8.1.From⟩⟩, .string ⟨⟨x8.1.To⟩⟩]⟩, .int .i64 (x8.2)]⟩) rfl rfl (W_clockworkref29_Range x1 x3 h2 hx8) ?_
    refine Exec.run tyOk 400 rfl ?_
    refine Exec.draws tyOk [(0, true), (1, true), (3, true), (4, true), (2, false), (5, false), (6, false), (7, false), (8, true), (9, false), (10, false), (11, false), (12, false), (13, true), (14, false), (15, false), (16, false), (17, false), (18, true), (19, true), (21, true), (22, true), (20, false), (23, false), (24, false), (25, false), (26, false), (27, true), (29, true), (28, false), (30, false), (31, false), (32, false), (33, false), (34, false), (35, false), (36, false)] rfl (by kernel_rfl) ?_
    refine Exec.run tyOk 400 rfl ?_
    obtain ⟨x9, hx9, hF⟩ := bnd_some hF
    refine Exec.callS (.int .i64 (x9)) rfl rfl (W_placement_Index x1 x4 h2 hx9) ?_
    refine Exec.run tyOk 400 rfl ?_
    obtain ⟨x10, hx10, hF⟩ := bnd_some hF
    refine Exec.callS (.int .i64 (x10)) rfl rfl (W_clockworkref29_Index x1 x4 h2 hx10) ?_
    refine Exec.run tyOk 400 rfl ?_
    obtain ⟨x11, hx11, hF⟩ := bnd_some hF
    refine Exec.callS (.int .i64 (x11)) rfl rfl (fun gg0 => W_placement_Owner x1 x4 h2 (gcall_some hx11 (gd1_of gg0))) ?_
    refine Exec.run tyOk 400 rfl ?_
    obtain ⟨x12, hx12, hF⟩ := bnd_some hF
    refine Exec.callS (.int .i64 (x12)) rfl rfl (fun gg0 => W_clockworkref29_Owner x1 x4 h2 (gcall_some hx12 (gd1_of gg0))) ?_
    refine Exec.run tyOk 400 rfl ?_
    obtain ⟨x13, hx13, hF⟩ := bnd_some hF
    refine Exec.callG (fun y : Option Addr × Nat => .slice y.1 ((x13).length) (y.2)) (none, 0) (R := fun V' y => SlAt (cInt .i64) V' y.1 y.2 x13) rfl rfl rfl (fun gg0 => (W_placement_Nodes x1 h2 (gcall_some hx13 (gd1_of gg0))).mono (fun V' _ _ ⟨a14, k14, e1, h14⟩ => ⟨⟨a14, k14⟩, e1, h14⟩)) ?_
    rintro V15 ⟨a14, k14⟩ hv15 hg15
    have h14 : SlAt (cInt .i64) V15 a14 k14 x13 := gslat1 hx13 (fun gg0 => (hg15 gg0))
    have h16 := SlAt.mono h2 hv15
    refine Exec.run tyOk 400 rfl ?_
    obtain ⟨x17, hx17, hF⟩ := bnd_some hF
    refine Exec.callG (fun y : Option Addr × Nat => .slice y.1 ((x17).length) (y.2)) (none, 0) (R := fun V' y => SlAt (cInt .i64) V' y.1 y.2 x17) rfl rfl rfl (fun gg0 => (W_clockworkref29_Nodes x1 h16 (gcall_some hx17 (gd1_of gg0))).mono (fun V' _ _ ⟨a18, k18, e1, h18⟩ => ⟨⟨a18, k18⟩, e1, h18⟩)) ?_
    rintro V19 ⟨a18, k18⟩ hv19 hg19
    have h18 : SlAt (cInt .i64) V19 a18 k18 x17 := gslat1 hx17 (fun gg0 => (hg19 gg0))
    have h20 := SlAt.mono h16 hv19
    have h21 := SlAt.mono h14 hv19
    refine Exec.run tyOk 400 rfl ?_
    obtain ⟨x22, hx22, hF⟩ := bnd_some hF
    refine Exec.callS (.bool (x22)) rfl rfl (fun gg0 => W_clockworkref23_Ints x13 x17 h21 h18 (gcall_some hx22 (gd1_of gg0))) ?_
    refine Exec.run tyOk 400 rfl ?_
    obtain ⟨x23, hx23, hF⟩ := bnd_some hF
    refine Exec.callS (.bool (x23)) rfl rfl (fun gg0 => W_clockworklaw29_works   (gcall_some hx23 (gd1_of gg0))) ?_
    refine Exec.run tyOk 400 rfl ?_
    obtain rfl := some_inj hF
    exact Exec.ret tyOk rfl rfl rfl

def F_clockworklaw29_PlacementChanges (x1 : TPlacement) (x3 : TCut) : Option Bool :=
  (bnd (F_clockworklaw29_few x1) fun x4 => (cond ((!x4) || (decide ((100 : Int) < ((x3.Key).length : Int)))) (bnd (F_clockworklaw29_works ) fun x5 => (some x5)) (bnd (F_placement_Split x1 x3.Id x3.Key x3.Fresh) fun x6 => (bnd (F_clockworkref29_Split x1 x3.Id x3.Key x3.Fresh) fun x10 => (bnd (F_clockworkref29_Same x6.1 x10.1) fun x15 => (cond ((!x15) || (x6.2 != x10.2)) (some false) (bnd (F_placement_Merge x1 x3.Id) fun x16 => (bnd (F_clockworkref29_Merge x1 x3.Id) fun x22 => (bnd (F_clockworkref29_Same x16.1 x22.1) fun x29 => (bnd (gcall (((x29 && (x16.2 == x22.2))) == true) (F_clockworklaw29_works )) fun x30 => (some ((x29 && (x16.2 == x22.2)) && x30))))))))))))

set_option maxRecDepth 100000 in
theorem W_clockworklaw29_PlacementChanges {V : View} (x1 : TPlacement) (x3 : TCut) {a2 : Option Addr} {k2 : Nat} (h2 : SlAt cTPart V a2 k2 x1.Parts) {r : Bool} (hF : F_clockworklaw29_PlacementChanges x1 x3 = some r) :
    Spec Try.prog 5 [.agg ⟨[.int .i64 (x1.Version), .slice a2 ((x1.Parts).length) (k2)]⟩, .agg ⟨[.int .i64 (x3.Id), .string ⟨⟨x3.Key⟩⟩, .int .i64 (x3.Fresh)]⟩] V (fun _ v => v = .bool (r)) := by
  unfold F_clockworklaw29_PlacementChanges at hF
  refine Spec.enter (T := tyT) Try.func5 rfl (by kernel_rfl) rfl rfl rfl ?_
  refine Exec.run tyOk 400 rfl ?_
  obtain ⟨x4, hx4, hF⟩ := bnd_some hF
  refine Exec.callS (.bool (x4)) rfl rfl (W_clockworklaw29_few x1 h2 hx4) ?_
  refine Exec.run tyOk 400 rfl ?_
  rcases cond_some hF with ⟨hb, hF⟩ | ⟨hb, hF⟩
  · skip
    refine Exec.ifT rfl hb ?_
    refine Exec.run tyOk 400 rfl ?_
    obtain ⟨x5, hx5, hF⟩ := bnd_some hF
    refine Exec.callS (.bool (x5)) rfl rfl (W_clockworklaw29_works   hx5) ?_
    refine Exec.run tyOk 400 rfl ?_
    obtain rfl := some_inj hF
    exact Exec.ret tyOk rfl rfl rfl
  · skip
    refine Exec.ifF rfl hb ?_
    refine Exec.run tyOk 400 rfl ?_
    obtain ⟨x6, hx6, hF⟩ := bnd_some hF
    refine Exec.call rfl rfl (W_placement_Split x1 x3.Id x3.Key x3.Fresh h2 hx6) ?_
    rintro V8 _ hv8 ⟨a7, k7, rfl, h7⟩
    have h9 := SlAt.mono h2 hv8
    refine Exec.run tyOk 400 rfl ?_
    obtain ⟨x10, hx10, hF⟩ := bnd_some hF
    refine Exec.call rfl rfl (W_clockworkref29_Split x1 x3.Id x3.Key x3.Fresh h9 hx10) ?_
    rintro V12 _ hv12 ⟨a11, k11, rfl, h11⟩
    have h13 := SlAt.mono h9 hv12
    have h14 := SlAt.mono h7 hv12
    refine Exec.run tyOk 400 rfl ?_
    obtain ⟨x15, hx15, hF⟩ := bnd_some hF
    refine Exec.callS (.bool (x15)) rfl rfl (W_clockworkref29_Same x6.1 x10.1 h14 h11 hx15) ?_
    refine Exec.run tyOk 400 rfl ?_
    rcases cond_some hF with ⟨hb, hF⟩ | ⟨hb, hF⟩
    · skip
      refine Exec.ifT rfl hb ?_
      refine Exec.run tyOk 400 rfl ?_
      obtain rfl := some_inj hF
      exact Exec.ret tyOk rfl rfl rfl
    · skip
      refine Exec.ifF rfl hb ?_
      refine Exec.run tyOk 400 rfl ?_
      obtain ⟨x16, hx16, hF⟩ := bnd_some hF
      refine Exec.call rfl rfl (W_placement_Merge x1 x3.Id h13 hx16) ?_
      rintro V18 _ hv18 ⟨a17, k17, rfl, h17⟩
      have h19 := SlAt.mono h13 hv18
      have h20 := SlAt.mono h14 hv18
      have h21 := SlAt.mono h11 hv18
      refine Exec.run tyOk 400 rfl ?_
      obtain ⟨x22, hx22, hF⟩ := bnd_some hF
      refine Exec.call rfl rfl (W_clockworkref29_Merge x1 x3.Id h19 hx22) ?_
      rintro V24 _ hv24 ⟨a23, k23, rfl, h23⟩
      have h25 := SlAt.mono h19 hv24
      have h26 := SlAt.mono h20 hv24
      have h27 := SlAt.mono h21 hv24
      have h28 := SlAt.mono h17 hv24
      refine Exec.run tyOk 400 rfl ?_
      obtain ⟨x29, hx29, hF⟩ := bnd_some hF
      refine Exec.callS (.bool (x29)) rfl rfl (W_clockworkref29_Same x16.1 x22.1 h28 h23 hx29) ?_
      refine Exec.run tyOk 400 rfl ?_
      obtain ⟨x30, hx30, hF⟩ := bnd_some hF
      refine Exec.callS (.bool (x30)) rfl rfl (fun gg0 => W_clockworklaw29_works   (gcall_some hx30 (gd1_of gg0))) ?_
      refine Exec.run tyOk 400 rfl ?_
      obtain rfl := some_inj hF
      exact Exec.ret tyOk rfl rfl rfl

def F_clockworklaw29_PlacementSplits (x1 : TPlacement) (x3 : TCut) (x4 : Str) : Option Bool :=
  (bnd (F_clockworklaw29_few x1) fun x5 => (cond (((!x5) || (decide ((100 : Int) < ((x3.Key).length : Int)))) || (decide ((100 : Int) < ((x4).length : Int)))) (bnd (F_clockworklaw29_works ) fun x6 => (some x6)) (bnd (F_placement_Split x1 x3.Id x3.Key x3.Fresh) fun x7 => (cond (x7.2 != (0 : Int)) (bnd (gcall ((((((x7.1.Parts).length : Nat) : Int) == (0 : Int))) == true) (F_clockworklaw29_works )) fun x11 => (some (((((x7.1.Parts).length : Nat) : Int) == (0 : Int)) && x11))) (bnd (F_clockworkref29_Valid x7.1) fun x12 => (bnd (gcall (((((!x12) || (x7.1.Version != (IntKind.i64.wrap (x1.Version + (1 : Int))))) || ((((x7.1.Parts).length : Nat) : Int) != (IntKind.i64.wrap ((((x1.Parts).length : Nat) : Int) + (1 : Int)))))) == false) (F_placement_Owner x7.1 x4)) fun x13 => (bnd (gcall (((((!x12) || (x7.1.Version != (IntKind.i64.wrap (x1.Version + (1 : Int))))) || ((((x7.1.Parts).length : Nat) : Int) != (IntKind.i64.wrap ((((x1.Parts).length : Nat) : Int) + (1 : Int)))))) == false) (F_placement_Owner x1 x4)) fun x14 => (bnd (gcall ((((((!x12) || (x7.1.Version != (IntKind.i64.wrap (x1.Version + (1 : Int))))) || ((((x7.1.Parts).length : Nat) : Int) != (IntKind.i64.wrap ((((x1.Parts).length : Nat) : Int) + (1 : Int))))) || (x13 != x14))) == false) (F_placement_Owner x7.1 x3.Key)) fun x15 => (bnd (gcall ((((((!x12) || (x7.1.Version != (IntKind.i64.wrap (x1.Version + (1 : Int))))) || ((((x7.1.Parts).length : Nat) : Int) != (IntKind.i64.wrap ((((x1.Parts).length : Nat) : Int) + (1 : Int))))) || (x13 != x14))) == false) (F_placement_Owner x1 x3.Key)) fun x16 => (bnd (gcall (((((((!x12) || (x7.1.Version != (IntKind.i64.wrap (x1.Version + (1 : Int))))) || ((((x7.1.Parts).length : Nat) : Int) != (IntKind.i64.wrap ((((x1.Parts).length : Nat) : Int) + (1 : Int))))) || (x13 != x14)) || (x15 != x16))) == false) (F_placement_Nodes x7.1)) fun x17 => (bnd (gcall (((((((!x12) || (x7.1.Version != (IntKind.i64.wrap (x1.Version + (1 : Int))))) || ((((x7.1.Parts).length : Nat) : Int) != (IntKind.i64.wrap ((((x1.Parts).length : Nat) : Int) + (1 : Int))))) || (x13 != x14)) || (x15 != x16))) == false) (F_placement_Nodes x1)) fun x22 => (bnd (gcall (((((((!x12) || (x7.1.Version != (IntKind.i64.wrap (x1.Version + (1 : Int))))) || ((((x7.1.Parts).length : Nat) : Int) != (IntKind.i64.wrap ((((x1.Parts).length : Nat) : Int) + (1 : Int))))) || (x13 != x14)) || (x15 != x16))) == false) (F_clockworkref23_Ints x17 x22)) fun x28 => (cond ((((((!x12) || (x7.1.Version != (IntKind.i64.wrap (x1.Version + (1 : Int))))) || ((((x7.1.Parts).length : Nat) : Int) != (IntKind.i64.wrap ((((x1.Parts).length : Nat) : Int) + (1 : Int))))) || (x13 != x14)) || (x15 != x16)) || (!x28)) (some false) (cond (x7.1.Version == (1099511627776 : Int)) (bnd (F_clockworklaw29_works ) fun x29 => (some x29)) (bnd (F_placement_Merge x7.1 x3.Id) fun x30 => (bnd (gcall (((x30.2 == (0 : Int))) == true) (F_clockworkref29_Same x30.1 ((⟨(IntKind.i64.wrap (x1.Version + (2 : Int))), x1.Parts⟩ : TPlacement)))) fun x35 => (bnd (gcall ((((x30.2 == (0 : Int)) && x35)) == true) (F_clockworklaw29_works )) fun x36 => (some (((x30.2 == (0 : Int)) && x35) && x36)))))))))))))))))))

set_option maxRecDepth 100000 in
theorem W_clockworklaw29_PlacementSplits {V : View} (x1 : TPlacement) (x3 : TCut) (x4 : Str) {a2 : Option Addr} {k2 : Nat} (h2 : SlAt cTPart V a2 k2 x1.Parts) {r : Bool} (hF : F_clockworklaw29_PlacementSplits x1 x3 x4 = some r) :
    Spec Try.prog 6 [.agg ⟨[.int .i64 (x1.Version), .slice a2 ((x1.Parts).length) (k2)]⟩, .agg ⟨[.int .i64 (x3.Id), .string ⟨⟨x3.Key⟩⟩, .int .i64 (x3.Fresh)]⟩, .string ⟨⟨x4⟩⟩] V (fun _ v => v = .bool (r)) := by
  unfold F_clockworklaw29_PlacementSplits at hF
  refine Spec.enter (T := tyT) Try.func6 rfl (by kernel_rfl) rfl rfl rfl ?_
  refine Exec.run tyOk 400 rfl ?_
  obtain ⟨x5, hx5, hF⟩ := bnd_some hF
  refine Exec.callS (.bool (x5)) rfl rfl (W_clockworklaw29_few x1 h2 hx5) ?_
  refine Exec.run tyOk 400 rfl ?_
  rcases cond_some hF with ⟨hb, hF⟩ | ⟨hb, hF⟩
  · skip
    refine Exec.ifT rfl hb ?_
    refine Exec.run tyOk 400 rfl ?_
    obtain ⟨x6, hx6, hF⟩ := bnd_some hF
    refine Exec.callS (.bool (x6)) rfl rfl (W_clockworklaw29_works   hx6) ?_
    refine Exec.run tyOk 400 rfl ?_
    obtain rfl := some_inj hF
    exact Exec.ret tyOk rfl rfl rfl
  · skip
    refine Exec.ifF rfl hb ?_
    refine Exec.run tyOk 400 rfl ?_
    obtain ⟨x7, hx7, hF⟩ := bnd_some hF
    refine Exec.call rfl rfl (W_placement_Split x1 x3.Id x3.Key x3.Fresh h2 hx7) ?_
    rintro V9 _ hv9 ⟨a8, k8, rfl, h8⟩
    have h10 := SlAt.mono h2 hv9
    refine Exec.run tyOk 400 rfl ?_
    rcases cond_some hF with ⟨hb, hF⟩ | ⟨hb, hF⟩
    · skip
      refine Exec.ifT rfl hb ?_
      refine Exec.run tyOk 400 rfl ?_
      obtain ⟨x11, hx11, hF⟩ := bnd_some hF
      refine Exec.callS (.bool (x11)) rfl rfl (fun gg0 => W_clockworklaw29_works   (gcall_some hx11 (gd1_of gg0))) ?_
      refine Exec.run tyOk 400 rfl ?_
      obtain rfl := some_inj hF
      exact Exec.ret tyOk rfl rfl rfl
    · skip
      refine Exec.ifF rfl hb ?_
      refine Exec.run tyOk 400 rfl ?_
      refine Exec.draws tyOk [(0, true), (1, false), (2, false), (3, false), (4, true), (5, true), (6, false), (7, false), (8, false), (9, false), (10, false), (11, false), (12, true), (13, true), (14, true), (15, false), (16, false), (17, false), (18, false), (19, false), (20, false), (21, false), (22, true), (23, true), (25, true), (26, true), (24, false), (27, false), (28, false), (29, false), (30, false), (31, true), (32, true), (33, true), (35, true), (36, true), (37, true), (34, false), (38, false), (39, false), (40, false), (41, false), (42, true), (44, true), (43, false), (45, false), (46, false), (47, false), (48, false)] rfl (by kernel_rfl) ?_
      refine Exec.run tyOk 400 rfl ?_
      obtain ⟨x12, hx12, hF⟩ := bnd_some hF
      refine Exec.callS (.bool (x12)) rfl rfl (W_clockworkref29_Valid x7.1 h8 hx12) ?_
      refine Exec.run tyOk 400 rfl ?_
      obtain ⟨x13, hx13, hF⟩ := bnd_some hF
      refine Exec.callS (.int .i64 (x13)) rfl rfl (fun gg0 => W_placement_Owner x7.1 x4 h8 (gcall_some hx13 (gd1_of gg0))) ?_
      refine Exec.run tyOk 400 rfl ?_
      obtain ⟨x14, hx14, hF⟩ := bnd_some hF
      refine Exec.callS (.int .i64 (x14)) rfl rfl (fun gg0 => W_placement_Owner x1 x4 h10 (gcall_some hx14 (gd1_of gg0))) ?_
      refine Exec.run tyOk 400 rfl ?_
      obtain ⟨x15, hx15, hF⟩ := bnd_some hF
      refine Exec.callS (.int .i64 (x15)) rfl rfl (fun gg0 => W_placement_Owner x7.1 x3.Key h8 (gcall_some hx15 (gd1_of gg0))) ?_
      refine Exec.run tyOk 400 rfl ?_
      obtain ⟨x16, hx16, hF⟩ := bnd_some hF
      refine Exec.callS (.int .i64 (x16)) rfl rfl (fun gg0 => W_placement_Owner x1 x3.Key h10 (gcall_some hx16 (gd1_of gg0))) ?_
      refine Exec.run tyOk 400 rfl ?_
      obtain ⟨x17, hx17, hF⟩ := bnd_some hF
      refine Exec.callG (fun y : Option Addr × Nat => .slice y.1 ((x17).length) (y.2)) (none, 0) (R := fun V' y => SlAt (cInt .i64) V' y.1 y.2 x17) rfl rfl rfl (fun gg0 => (W_placement_Nodes x7.1 h8 (gcall_some hx17 (gd1_of gg0))).mono (fun V' _ _ ⟨a18, k18, e1, h18⟩ => ⟨⟨a18, k18⟩, e1, h18⟩)) ?_
      rintro V19 ⟨a18, k18⟩ hv19 hg19
      have h18 : SlAt (cInt .i64) V19 a18 k18 x17 := gslat1 hx17 (fun gg0 => (hg19 gg0))
      have h20 := SlAt.mono h10 hv19
      have h21 := SlAt.mono h8 hv19
      refine Exec.run tyOk 400 rfl ?_
      obtain ⟨x22, hx22, hF⟩ := bnd_some hF
      refine Exec.callG (fun y : Option Addr × Nat => .slice y.1 ((x22).length) (y.2)) (none, 0) (R := fun V' y => SlAt (cInt .i64) V' y.1 y.2 x22) rfl rfl rfl (fun gg0 => (W_placement_Nodes x1 h20 (gcall_some hx22 (gd1_of gg0))).mono (fun V' _ _ ⟨a23, k23, e1, h23⟩ => ⟨⟨a23, k23⟩, e1, h23⟩)) ?_
      rintro V24 ⟨a23, k23⟩ hv24 hg24
      have h23 : SlAt (cInt .i64) V24 a23 k23 x22 := gslat1 hx22 (fun gg0 => (hg24 gg0))
      have h25 := SlAt.mono h20 hv24
      have h26 := SlAt.mono h21 hv24
      have h27 := SlAt.mono h18 hv24
      refine Exec.run tyOk 400 rfl ?_
      obtain ⟨x28, hx28, hF⟩ := bnd_some hF
      refine Exec.callS (.bool (x28)) rfl rfl (fun gg0 => W_clockworkref23_Ints x17 x22 h27 h23 (gcall_some hx28 (gd1_of gg0))) ?_
      refine Exec.run tyOk 400 rfl ?_
      rcases cond_some hF with ⟨hb, hF⟩ | ⟨hb, hF⟩
      · skip
        refine Exec.ifT rfl hb ?_
        refine Exec.run tyOk 400 rfl ?_
        obtain rfl := some_inj hF
        exact Exec.ret tyOk rfl rfl rfl
      · skip
        refine Exec.ifF rfl hb ?_
        refine Exec.run tyOk 400 rfl ?_
        rcases cond_some hF with ⟨hb, hF⟩ | ⟨hb, hF⟩
        · skip
          refine Exec.ifT rfl hb ?_
          refine Exec.run tyOk 400 rfl ?_
          obtain ⟨x29, hx29, hF⟩ := bnd_some hF
          refine Exec.callS (.bool (x29)) rfl rfl (W_clockworklaw29_works   hx29) ?_
          refine Exec.run tyOk 400 rfl ?_
          obtain rfl := some_inj hF
          exact Exec.ret tyOk rfl rfl rfl
        · skip
          refine Exec.ifF rfl hb ?_
          refine Exec.run tyOk 400 rfl ?_
          obtain ⟨x30, hx30, hF⟩ := bnd_some hF
          refine Exec.call rfl rfl (W_placement_Merge x7.1 x3.Id h26 hx30) ?_
          rintro V32 _ hv32 ⟨a31, k31, rfl, h31⟩
          have h33 := SlAt.mono h25 hv32
          have h34 := SlAt.mono h26 hv32
          refine Exec.run tyOk 400 rfl ?_
          obtain ⟨x35, hx35, hF⟩ := bnd_some hF
          refine Exec.callS (.bool (x35)) rfl rfl (fun gg0 => W_clockworkref29_Same x30.1 ((⟨(IntKind.i64.wrap (x1.Version + (2 : Int))), x1.Parts⟩ : TPlacement)) h31 h33 (gcall_some hx35 (gd1_of gg0))) ?_
          refine Exec.run tyOk 400 rfl ?_
          obtain ⟨x36, hx36, hF⟩ := bnd_some hF
          refine Exec.callS (.bool (x36)) rfl rfl (fun gg0 => W_clockworklaw29_works   (gcall_some hx36 (gd1_of gg0))) ?_
          refine Exec.run tyOk 400 rfl ?_
          obtain rfl := some_inj hF
          exact Exec.ret tyOk rfl rfl rfl

def F_clockworklaw29_PlacementMerges (x1 : TPlacement) (x3 : Int) (x4 : Str) : Option Bool :=
  (bnd (F_clockworklaw29_few x1) fun x5 => (cond ((!x5) || (decide ((100 : Int) < ((x4).length : Int)))) (bnd (F_clockworklaw29_works ) fun x6 => (some x6)) (bnd (F_placement_Merge x1 x3) fun x7 => (cond (x7.2 != (0 : Int)) (bnd (gcall ((((((x7.1.Parts).length : Nat) : Int) == (0 : Int))) == true) (F_clockworklaw29_works )) fun x11 => (some (((((x7.1.Parts).length : Nat) : Int) == (0 : Int)) && x11))) (bnd (F_clockworkref29_Find x1 x3) fun x12 => (bnd (F_clockworkref29_Valid x7.1) fun x13 => (bnd (gcall (((((((!x13) || (decide (x12 < (0 : Int)))) || (decide ((((x1.Parts).length : Nat) : Int) ≤ (IntKind.i64.wrap (x12 + (1 : Int)))))) || (x7.1.Version != (IntKind.i64.wrap (x1.Version + (1 : Int))))) || ((((x7.1.Parts).length : Nat) : Int) != (IntKind.i64.wrap ((((x1.Parts).length : Nat) : Int) - (1 : Int)))))) == false) (F_placement_Owner x7.1 x4)) fun x14 => (bnd (gcall (((((((!x13) || (decide (x12 < (0 : Int)))) || (decide ((((x1.Parts).length : Nat) : Int) ≤ (IntKind.i64.wrap (x12 + (1 : Int)))))) || (x7.1.Version != (IntKind.i64.wrap (x1.Version + (1 : Int))))) || ((((x7.1.Parts).length : Nat) : Int) != (IntKind.i64.wrap ((((x1.Parts).length : Nat) : Int) - (1 : Int)))))) == false) (F_placement_Owner x1 x4)) fun x15 => (bnd (gcall ((((((((!x13) || (decide (x12 < (0 : Int)))) || (decide ((((x1.Parts).length : Nat) : Int) ≤ (IntKind.i64.wrap (x12 + (1 : Int)))))) || (x7.1.Version != (IntKind.i64.wrap (x1.Version + (1 : Int))))) || ((((x7.1.Parts).length : Nat) : Int) != (IntKind.i64.wrap ((((x1.Parts).length : Nat) : Int) - (1 : Int))))) || (x14 != x15))) == false) (F_placement_Nodes x7.1)) fun x16 => (bnd (gcall ((((((((!x13) || (decide (x12 < (0 : Int)))) || (decide ((((x1.Parts).length : Nat) : Int) ≤ (IntKind.i64.wrap (x12 + (1 : Int)))))) || (x7.1.Version != (IntKind.i64.wrap (x1.Version + (1 : Int))))) || ((((x7.1.Parts).length : Nat) : Int) != (IntKind.i64.wrap ((((x1.Parts).length : Nat) : Int) - (1 : Int))))) || (x14 != x15))) == false) (F_placement_Nodes x1)) fun x21 => (bnd (gcall ((((((((!x13) || (decide (x12 < (0 : Int)))) || (decide ((((x1.Parts).length : Nat) : Int) ≤ (IntKind.i64.wrap (x12 + (1 : Int)))))) || (x7.1.Version != (IntKind.i64.wrap (x1.Version + (1 : Int))))) || ((((x7.1.Parts).length : Nat) : Int) != (IntKind.i64.wrap ((((x1.Parts).length : Nat) : Int) - (1 : Int))))) || (x14 != x15))) == false) (F_clockworkref23_Ints x16 x21)) fun x27 => (cond (((((((!x13) || (decide (x12 < (0 : Int)))) || (decide ((((x1.Parts).length : Nat) : Int) ≤ (IntKind.i64.wrap (x12 + (1 : Int)))))) || (x7.1.Version != (IntKind.i64.wrap (x1.Version + (1 : Int))))) || ((((x7.1.Parts).length : Nat) : Int) != (IntKind.i64.wrap ((((x1.Parts).length : Nat) : Int) - (1 : Int))))) || (x14 != x15)) || (!x27)) (some false) (cond (x7.1.Version == (1099511627776 : Int)) (bnd (F_clockworklaw29_works ) fun x28 => (some x28)) (req (0 ≤ (IntKind.i64.wrap (x12 + (1 : Int))) ∧ (IntKind.i64.wrap (x12 + (1 : Int))) < ((x1.Parts).length : Int)) (req (0 ≤ (IntKind.i64.wrap (x12 + (1 : Int))) ∧ (IntKind.i64.wrap (x12 + (1 : Int))) < ((x1.Parts).length : Int)) (bnd (F_placement_Split x7.1 x3 ((atI x1.Parts ((IntKind.i64.wrap (x12 + (1 : Int))))).From) ((atI x1.Parts ((IntKind.i64.wrap (x12 + (1 : Int))))).Id)) fun x33 => (bnd (gcall (((x33.2 == (0 : Int))) == true) (F_clockworkref29_Same x33.1 ((⟨(IntKind.i64.wrap (x1.Version + (2 : Int))), x1.Parts⟩ : TPlacement)))) fun x56 => (bnd (gcall ((((x33.2 == (0 : Int)) && x56)) == true) (F_clockworklaw29_works )) fun x57 => (some (((x33.2 == (0 : Int)) && x56) && x57))))))))))))))))))))

set_option maxRecDepth 100000 in
theorem W_clockworklaw29_PlacementMerges {V : View} (x1 : TPlacement) (x3 : Int) (x4 : Str) {a2 : Option Addr} {k2 : Nat} (h2 : SlAt cTPart V a2 k2 x1.Parts) {r : Bool} (hF : F_clockworklaw29_PlacementMerges x1 x3 x4 = some r) :
    Spec Try.prog 7 [.agg ⟨[.int .i64 (x1.Version), .slice a2 ((x1.Parts).length) (k2)]⟩, .int .i64 (x3), .string ⟨⟨x4⟩⟩] V (fun _ v => v = .bool (r)) := by
  unfold F_clockworklaw29_PlacementMerges at hF
  refine Spec.enter (T := tyT) Try.func7 rfl (by kernel_rfl) rfl rfl rfl ?_
  refine Exec.run tyOk 400 rfl ?_
  obtain ⟨x5, hx5, hF⟩ := bnd_some hF
  refine Exec.callS (.bool (x5)) rfl rfl (W_clockworklaw29_few x1 h2 hx5) ?_
  refine Exec.run tyOk 400 rfl ?_
  rcases cond_some hF with ⟨hb, hF⟩ | ⟨hb, hF⟩
  · skip
    refine Exec.ifT rfl hb ?_
    refine Exec.run tyOk 400 rfl ?_
    obtain ⟨x6, hx6, hF⟩ := bnd_some hF
    refine Exec.callS (.bool (x6)) rfl rfl (W_clockworklaw29_works   hx6) ?_
    refine Exec.run tyOk 400 rfl ?_
    obtain rfl := some_inj hF
    exact Exec.ret tyOk rfl rfl rfl
  · skip
    refine Exec.ifF rfl hb ?_
    refine Exec.run tyOk 400 rfl ?_
    obtain ⟨x7, hx7, hF⟩ := bnd_some hF
    refine Exec.call rfl rfl (W_placement_Merge x1 x3 h2 hx7) ?_
    rintro V9 _ hv9 ⟨a8, k8, rfl, h8⟩
    have h10 := SlAt.mono h2 hv9
    refine Exec.run tyOk 400 rfl ?_
    rcases cond_some hF with ⟨hb, hF⟩ | ⟨hb, hF⟩
    · skip
      refine Exec.ifT rfl hb ?_
      refine Exec.run tyOk 400 rfl ?_
      obtain ⟨x11, hx11, hF⟩ := bnd_some hF
      refine Exec.callS (.bool (x11)) rfl rfl (fun gg0 => W_clockworklaw29_works   (gcall_some hx11 (gd1_of gg0))) ?_
      refine Exec.run tyOk 400 rfl ?_
      obtain rfl := some_inj hF
      exact Exec.ret tyOk rfl rfl rfl
    · skip
      refine Exec.ifF rfl hb ?_
      refine Exec.run tyOk 400 rfl ?_
      obtain ⟨x12, hx12, hF⟩ := bnd_some hF
      refine Exec.callS (.int .i64 (x12)) rfl rfl (W_clockworkref29_Find x1 x3 h10 hx12) ?_
      refine Exec.run tyOk 400 rfl ?_
      refine Exec.draws tyOk [(0, true), (1, false), (2, false), (3, false), (4, false), (5, false), (6, false), (7, false), (8, true), (9, true), (10, false), (11, false), (12, false), (13, false), (14, false), (15, false), (16, true), (17, true), (18, false), (19, false), (20, false), (21, false), (22, false), (23, false), (24, true), (25, true), (26, true), (27, false), (28, false), (29, false), (30, false), (31, false), (32, false), (33, false), (34, true), (35, true), (37, true), (38, true), (36, false), (39, false), (40, false), (41, false), (42, false), (43, true), (45, true), (44, false), (46, false), (47, false), (48, false), (49, false)] rfl (by kernel_rfl) ?_
      refine Exec.run tyOk 400 rfl ?_
      obtain ⟨x13, hx13, hF⟩ := bnd_some hF
      refine Exec.callS (.bool (x13)) rfl rfl (W_clockworkref29_Valid x7.1 h8 hx13) ?_
      refine Exec.run tyOk 400 rfl ?_
      obtain ⟨x14, hx14, hF⟩ := bnd_some hF
      refine Exec.callS (.int .i64 (x14)) rfl rfl (fun gg0 => W_placement_Owner x7.1 x4 h8 (gcall_some hx14 (gd1_of gg0))) ?_
      refine Exec.run tyOk 400 rfl ?_
      obtain ⟨x15, hx15, hF⟩ := bnd_some hF
      refine Exec.callS (.int .i64 (x15)) rfl rfl (fun gg0 => W_placement_Owner x1 x4 h10 (gcall_some hx15 (gd1_of gg0))) ?_
      refine Exec.run tyOk 400 rfl ?_
      obtain ⟨x16, hx16, hF⟩ := bnd_some hF
      refine Exec.callG (fun y : Option Addr × Nat => .slice y.1 ((x16).length) (y.2)) (none, 0) (R := fun V' y => SlAt (cInt .i64) V' y.1 y.2 x16) rfl rfl rfl (fun gg0 => (W_placement_Nodes x7.1 h8 (gcall_some hx16 (gd1_of gg0))).mono (fun V' _ _ ⟨a17, k17, e1, h17⟩ => ⟨⟨a17, k17⟩, e1, h17⟩)) ?_
      rintro V18 ⟨a17, k17⟩ hv18 hg18
      have h17 : SlAt (cInt .i64) V18 a17 k17 x16 := gslat1 hx16 (fun gg0 => (hg18 gg0))
      have h19 := SlAt.mono h10 hv18
      have h20 := SlAt.mono h8 hv18
      refine Exec.run tyOk 400 rfl ?_
      obtain ⟨x21, hx21, hF⟩ := bnd_some hF
      refine Exec.callG (fun y : Option Addr × Nat => .slice y.1 ((x21).length) (y.2)) (none, 0) (R := fun V' y => SlAt (cInt .i64) V' y.1 y.2 x21) rfl rfl rfl (fun gg0 => (W_placement_Nodes x1 h19 (gcall_some hx21 (gd1_of gg0))).mono (fun V' _ _ ⟨a22, k22, e1, h22⟩ => ⟨⟨a22, k22⟩, e1, h22⟩)) ?_
      rintro V23 ⟨a22, k22⟩ hv23 hg23
      have h22 : SlAt (cInt .i64) V23 a22 k22 x21 := gslat1 hx21 (fun gg0 => (hg23 gg0))
      have h24 := SlAt.mono h19 hv23
      have h25 := SlAt.mono h20 hv23
      have h26 := SlAt.mono h17 hv23
      refine Exec.run tyOk 400 rfl ?_
      obtain ⟨x27, hx27, hF⟩ := bnd_some hF
      refine Exec.callS (.bool (x27)) rfl rfl (fun gg0 => W_clockworkref23_Ints x16 x21 h26 h22 (gcall_some hx27 (gd1_of gg0))) ?_
      refine Exec.run tyOk 400 rfl ?_
      rcases cond_some hF with ⟨hb, hF⟩ | ⟨hb, hF⟩
      · skip
        refine Exec.ifT rfl hb ?_
        refine Exec.run tyOk 400 rfl ?_
        obtain rfl := some_inj hF
        exact Exec.ret tyOk rfl rfl rfl
      · skip
        refine Exec.ifF rfl hb ?_
        refine Exec.run tyOk 400 rfl ?_
        rcases cond_some hF with ⟨hb, hF⟩ | ⟨hb, hF⟩
        · skip
          refine Exec.ifT rfl hb ?_
          refine Exec.run tyOk 400 rfl ?_
          obtain ⟨x28, hx28, hF⟩ := bnd_some hF
          refine Exec.callS (.bool (x28)) rfl rfl (W_clockworklaw29_works   hx28) ?_
          refine Exec.run tyOk 400 rfl ?_
          obtain rfl := some_inj hF
          exact Exec.ret tyOk rfl rfl rfl
        · skip
          refine Exec.ifF rfl hb ?_
          refine Exec.run tyOk 400 rfl ?_
          refine Exec.drawsE tyOk [] [] [(0, true), (1, true), (2, true), (3, true), (4, true), (5, true), (6, true), (7, true), (8, true), (9, true), (10, true), (11, true), (12, true), (13, true), (14, true), (15, true)] (by kernel_rfl) ?_
          refine Exec.run tyOk 400 rfl ?_
          obtain ⟨q29, hF⟩ := req_some hF
          obtain ⟨c30, hr30, hd30⟩ := SlAt.get h24 q29
          obtain rfl := hr30
          refine Exec.fia tyOk rfl rfl rfl ⟨q29.1, q29.2, hd30.some⟩ ?_
          refine Exec.run tyOk 400 rfl ?_
          refine Exec.fld tyOk (x := .string ⟨⟨(atI x1.Parts ((IntKind.i64.wrap (x12 + (1 : Int))))).From⟩⟩) rfl rfl rfl (RdAt.part hd30 1 1 rfl) rfl rfl ?_
          refine Exec.run tyOk 400 rfl ?_
          obtain ⟨q31, hF⟩ := req_some hF
          obtain ⟨c32, hr32, hd32⟩ := SlAt.get h24 q31
          obtain rfl := hr32
          refine Exec.fia tyOk rfl rfl rfl ⟨q31.1, q31.2, hd32.some⟩ ?_
          refine Exec.run tyOk 400 rfl ?_
          refine Exec.fld tyOk (x := .int .i64 ((atI x1.Parts ((IntKind.i64.wrap (x12 + (1 : Int))))).Id)) rfl rfl rfl (RdAt.part hd32 0 1 rfl) rfl rfl ?_
          refine Exec.run tyOk 400 rfl ?_
          obtain ⟨x33, hx33, hF⟩ := bnd_some hF
          refine Exec.fork 16 20 [(17, true), (18, true), (19, true), (20, false)] [(16, false), (17, true), (18, true), (19, true)] [(21, false), (22, true)] (fun lr' L' V' M' => ∃ (a34 : Option Addr) (k34 : Nat), lr' = [] ∧ L' = [(3, .ptr 0 0), (8, .v (.int .i64 (x7.2))), (10, .ptr 2 0), (110, .v (.agg ⟨[.int .i64 (x33.1.Version), .slice a34 ((x33.1.Parts).length) (k34)]⟩)), (111, .v (.int .i64 (x33.2)))] ∧ M' = [.blk [.v (.int .i64 (x1.Version)), .v (.slice a2 ((x1.Parts).length) (k2))] 24, .blk [.v (.int .i64 (x7.1.Version)), .v (.slice a8 ((x7.1.Parts).length) (k8))] 24, .blk [.v (.int .i64 (0)), .v (.slice none (0) (0))] 24] ∧ SlAt cTPart V' a34 k34 x33.1.Parts ∧ SlAt cTPart V' a2 k2 x1.Parts ∧ SlAt cTPart V' a8 k8 x7.1.Parts) 2 [true, true, true, true, true, true, true, true, true, true, true, true, true, true, true, true, true, true, true, true, true, false, false] rfl (by kernel_rfl) rfl rfl (by kernel_rfl) (by kernel_rfl) (by kernel_rfl) (by kernel_rfl) (fun join => ?_) (fun join => ?_) ?_
          · skip
            refine Exec.run tyOk 400 rfl ?_
            refine Exec.call rfl rfl (W_placement_Split x7.1 x3 ((atI x1.Parts ((IntKind.i64.wrap (x12 + (1 : Int))))).From) ((atI x1.Parts ((IntKind.i64.wrap (x12 + (1 : Int))))).Id) h25 hx33) ?_
            rintro V41 _ hv41 ⟨a40, k40, rfl, h40⟩
            have h42 := SlAt.mono h24 hv41
            have h43 := SlAt.mono h25 hv41
            refine Exec.run tyOk 400 rfl ?_
            exact join [0, 1, 2] (lr' := []) (L' := [(3, .ptr 0 0), (8, .v (.int .i64 (x7.2))), (10, .ptr 2 0), (110, .v (.agg ⟨[.int .i64 (x33.1.Version), .slice a40 ((x33.1.Parts).length) (k40)]⟩)), (111, .v (.int .i64 (x33.2)))]) rfl rfl rfl rfl ⟨⟨_, rfl, rfl⟩, ⟨_, rfl, rfl⟩, ⟨_, rfl, rfl⟩, ⟨_, rfl, rfl⟩, ⟨_, rfl, rfl⟩, trivial⟩ trivial ⟨_, _, rfl, rfl, rfl, h40, h42, h43⟩
          · skip
            refine Exec.run tyOk 400 rfl ?_
            refine Exec.call rfl rfl (W_placement_Split x7.1 x3 ((atI x1.Parts ((IntKind.i64.wrap (x12 + (1 : Int))))).From) ((atI x1.Parts ((IntKind.i64.wrap (x12 + (1 : Int))))).Id) h25 hx33) ?_
            rintro V47 _ hv47 ⟨a46, k46, rfl, h46⟩
            have h48 := SlAt.mono h24 hv47
            have h49 := SlAt.mono h25 hv47
            refine Exec.run tyOk 400 rfl ?_
            exact join [0, 1, 2] (lr' := []) (L' := [(3, .ptr 0 0), (8, .v (.int .i64 (x7.2))), (10, .ptr 2 0), (110, .v (.agg ⟨[.int .i64 (x33.1.Version), .slice a46 ((x33.1.Parts).length) (k46)]⟩)), (111, .v (.int .i64 (x33.2)))]) rfl rfl rfl rfl ⟨⟨_, rfl, rfl⟩, ⟨_, rfl, rfl⟩, ⟨_, rfl, rfl⟩, ⟨_, rfl, rfl⟩, ⟨_, rfl, rfl⟩, trivial⟩ trivial ⟨_, _, rfl, rfl, rfl, h46, h48, h49⟩
          rintro lr' L' VV52 M' ⟨a34, k34, rfl, rfl, rfl, h53, h54, h55⟩
          refine Exec.run tyOk 400 rfl ?_
          obtain ⟨x56, hx56, hF⟩ := bnd_some hF
          refine Exec.callS (.bool (x56)) rfl rfl (fun gg0 => W_clockworkref29_Same x33.1 ((⟨(IntKind.i64.wrap (x1.Version + (2 : Int))), x1.Parts⟩ : TPlacement)) h53 h54 (gcall_some hx56 (gd1_of gg0))) ?_
          refine Exec.run tyOk 400 rfl ?_
          obtain ⟨x57, hx57, hF⟩ := bnd_some hF
          refine Exec.callS (.bool (x57)) rfl rfl (fun gg0 => W_clockworklaw29_works   (gcall_some hx57 (gd1_of gg0))) ?_
          refine Exec.run tyOk 400 rfl ?_
          obtain rfl := some_inj hF
          exact Exec.ret tyOk rfl rfl rfl

def F_clockworklaw29_PlacementOwners_L1 (x17 : List Int) (x16 : Int) (J22 : Bool → Option Bool) : Nat → Bool → Int → Option Bool
  | 0, _, _ => none
  | n38 + 1, x36, x37 => (cond (decide (x37 < (((x17).length : Nat) : Int))) (req (((x36) == false) = true → 0 ≤ x37 ∧ x37 < ((x17).length : Int)) (F_clockworklaw29_PlacementOwners_L1 x17 x16 J22 n38 ((x36 || ((cond ((x36) == false) (atI x17 x37) default) == x16))) ((IntKind.i64.wrap (x37 + (1 : Int)))))) (J22 x36))

def F_clockworklaw29_PlacementOwners_L2 (x1 : TPlacement) (x3 : Str) (J12 : Int → Int → Option Bool) : Nat → Int → Int → Int → Option Bool
  | 0, _, _, _ => none
  | n47 + 1, x44, x45, x46 => (cond (decide (x46 < (((x1.Parts).length : Nat) : Int))) (req (0 ≤ x46 ∧ x46 < ((x1.Parts).length : Int)) (bnd (F_placement_Range x1 ((atI x1.Parts x46).Id)) fun x52 => (cond (x52.2 != (0 : Int)) (some false) (jn (fun (x55 : Int) (x56 : Int) => (F_clockworklaw29_PlacementOwners_L2 x1 x3 J12 n47 x55 x56 ((IntKind.i64.wrap (x46 + (1 : Int)))))) (fun J57 => (cond ((!sLt x3 x52.1.From) && ((x52.1.To == ([] : Str)) || (sLt x3 x52.1.To))) (J57 ((IntKind.i64.wrap (x44 + (1 : Int)))) x46) (J57 x44 x45))))))) (J12 x44 x45))

def F_clockworklaw29_PlacementOwners (x1 : TPlacement) (x3 : Str) : Option Bool :=
  (bnd (F_clockworklaw29_few x1) fun x4 => (cond ((!x4) || (decide ((100 : Int) < ((x3).length : Int)))) (bnd (F_clockworklaw29_works ) fun x5 => (some x5)) (bnd (F_clockworkref29_Valid x1) fun x6 => (cond (!x6) (bnd (F_placement_Owner x1 x3) fun x7 => (bnd (gcall (((x7 == (0 : Int))) == true) (F_placement_Index x1 x3)) fun x8 => (bnd (gcall ((((x7 == (0 : Int)) && (x8 == (-1 : Int)))) == true) (F_clockworklaw29_works )) fun x9 => (some (((x7 == (0 : Int)) && (x8 == (-1 : Int))) && x9))))) (jn (fun (x10 : Int) (x11 : Int) => (bnd (gcall (((x10 != (1 : Int))) == false) (F_placement_Index x1 x3)) fun x15 => (cond ((x10 != (1 : Int)) || (x15 != x11)) (some false) (bnd (F_placement_Owner x1 x3) fun x16 => (bnd (F_placement_Nodes x1) fun x17 => (jn (fun (x21 : Bool) => (req (((x21) == true) = true → 0 ≤ x11 ∧ x11 < ((x1.Parts).length : Int)) (req (((((x16 == (cond ((x21) == true) (atI x1.Parts x11) default).Node)) == true) && ((x21) == true)) = true → 0 ≤ x11 ∧ x11 < ((x1.Parts).length : Int)) (req ((((((cond ((((x16 == (cond ((x21) == true) (atI x1.Parts x11) default).Node)) == true) && ((x21) == true)) (atI x1.Parts x11) default).Dest == (0 : Int))) == false) && ((((x16 == (cond ((x21) == true) (atI x1.Parts x11) default).Node)) == true) && ((x21) == true))) = true → 0 ≤ x11 ∧ x11 < ((x1.Parts).length : Int)) (req ((((((x16 == (cond ((x21) == true) (atI x1.Parts x11) default).Node) && (((cond ((((x16 == (cond ((x21) == true) (atI x1.Parts x11) default).Node)) == true) && ((x21) == true)) (atI x1.Parts x11) default).Dest == (0 : Int)) || (!sLt x3 (cond (((((cond ((((x16 == (cond ((x21) == true) (atI x1.Parts x11) default).Node)) == true) && ((x21) == true)) (atI x1.Parts x11) default).Dest == (0 : Int))) == false) && ((((x16 == (cond ((x21) == true) (atI x1.Parts x11) default).Node)) == true) && ((x21) == true))) (atI x1.Parts x11) default).Done)))) == false) && ((x21) == true)) = true → 0 ≤ x11 ∧ x11 < ((x1.Parts).length : Int)) (req (((((x16 == (cond (((((x16 == (cond ((x21) == true) (atI x1.Parts x11) default).Node) && (((cond ((((x16 == (cond ((x21) == true) (atI x1.Parts x11) default).Node)) == true) && ((x21) == true)) (atI x1.Parts x11) default).Dest == (0 : Int)) || (!sLt x3 (cond (((((cond ((((x16 == (cond ((x21) == true) (atI x1.Parts x11) default).Node)) == true) && ((x21) == true)) (atI x1.Parts x11) default).Dest == (0 : Int))) == false) && ((((x16 == (cond ((x21) == true) (atI x1.Parts x11) default).Node)) == true) && ((x21) == true))) (atI x1.Parts x11) default).Done)))) == false) && ((x21) == true)) (atI x1.Parts x11) default).Dest)) == true) && (((((x16 == (cond ((x21) == true) (atI x1.Parts x11) default).Node) && (((cond ((((x16 == (cond ((x21) == true) (atI x1.Parts x11) default).Node)) == true) && ((x21) == true)) (atI x1.Parts x11) default).Dest == (0 : Int)) || (!sLt x3 (cond (((((cond ((((x16 == (cond ((x21) == true) (atI x1.Parts x11) default).Node)) == true) && ((x21) == true)) (atI x1.Parts x11) default).Dest == (0 : Int))) == false) && ((((x16 == (cond ((x21) == true) (atI x1.Parts x11) default).Node)) == true) && ((x21) == true))) (atI x1.Parts x11) default).Done)))) == false) && ((x21) == true))) = true → 0 ≤ x11 ∧ x11 < ((x1.Parts).length : Int)) (bnd (gcall (((x21 && (((x16 == (cond ((x21) == true) (atI x1.Parts x11) default).Node) && (((cond ((((x16 == (cond ((x21) == true) (atI x1.Parts x11) default).Node)) == true) && ((x21) == true)) (atI x1.Parts x11) default).Dest == (0 : Int)) || (!sLt x3 (cond (((((cond ((((x16 == (cond ((x21) == true) (atI x1.Parts x11) default).Node)) == true) && ((x21) == true)) (atI x1.Parts x11) default).Dest == (0 : Int))) == false) && ((((x16 == (cond ((x21) == true) (atI x1.Parts x11) default).Node)) == true) && ((x21) == true))) (atI x1.Parts x11) default).Done))) || ((x16 == (cond (((((x16 == (cond ((x21) == true) (atI x1.Parts x11) default).Node) && (((cond ((((x16 == (cond ((x21) == true) (atI x1.Parts x11) default).Node)) == true) && ((x21) == true)) (atI x1.Parts x11) default).Dest == (0 : Int)) || (!sLt x3 (cond (((((cond ((((x16 == (cond ((x21) == true) (atI x1.Parts x11) default).Node)) == true) && ((x21) == true)) (atI x1.Parts x11) default).Dest == (0 : Int))) == false) && ((((x16 == (cond ((x21) == true) (atI x1.Parts x11) default).Node)) == true) && ((x21) == true))) (atI x1.Parts x11) default).Done)))) == false) && ((x21) == true)) (atI x1.Parts x11) default).Dest) && (sLt x3 (cond ((((x16 == (cond (((((x16 == (cond ((x21) == true) (atI x1.Parts x11) default).Node) && (((cond ((((x16 == (cond ((x21) == true) (atI x1.Parts x11) default).Node)) == true) && ((x21) == true)) (atI x1.Parts x11) default).Dest == (0 : Int)) || (!sLt x3 (cond (((((cond ((((x16 == (cond ((x21) == true) (atI x1.Parts x11) default).Node)) == true) && ((x21) == true)) (atI x1.Parts x11) default).Dest == (0 : Int))) == false) && ((((x16 == (cond ((x21) == true) (atI x1.Parts x11) default).Node)) == true) && ((x21) == true))) (atI x1.Parts x11) default).Done)))) == false) && ((x21) == true)) (atI x1.Parts x11) default).Dest)) == true) && (((((x16 == (cond ((x21) == true) (atI x1.Parts x11) default).Node) && (((cond ((((x16 == (cond ((x21) == true) (atI x1.Parts x11) default).Node)) == true) && ((x21) == true)) (atI x1.Parts x11) default).Dest == (0 : Int)) || (!sLt x3 (cond (((((cond ((((x16 == (cond ((x21) == true) (atI x1.Parts x11) default).Node)) == true) && ((x21) == true)) (atI x1.Parts x11) default).Dest == (0 : Int))) == false) && ((((x16 == (cond ((x21) == true) (atI x1.Parts x11) default).Node)) == true) && ((x21) == true))) (atI x1.Parts x11) default).Done)))) == false) && ((x21) == true))) (atI x1.Parts x11) default).Done))))) == true) (F_clockworklaw29_works )) fun x35 => (some ((x21 && (((x16 == (cond ((x21) == true) (atI x1.Parts x11) default).Node) && (((cond ((((x16 == (cond ((x21) == true) (atI x1.Parts x11) default).Node)) == true) && ((x21) == true)) (atI x1.Parts x11) default).Dest == (0 : Int)) || (!sLt x3 (cond (((((cond ((((x16 == (cond ((x21) == true) (atI x1.Parts x11) default).Node)) == true) && ((x21) == true)) (atI x1.Parts x11) default).Dest == (0 : Int))) == false) && ((((x16 == (cond ((x21) == true) (atI x1.Parts x11) default).Node)) == true) && ((x21) == true))) (atI x1.Parts x11) default).Done))) || ((x16 == (cond (((((x16 == (cond ((x21) == true) (atI x1.Parts x11) default).Node) && (((cond ((((x16 == (cond ((x21) == true) (atI x1.Parts x11) default).Node)) == true) && ((x21) == true)) (atI x1.Parts x11) default).Dest == (0 : Int)) || (!sLt x3 (cond (((((cond ((((x16 == (cond ((x21) == true) (atI x1.Parts x11) default).Node)) == true) && ((x21) == true)) (atI x1.Parts x11) default).Dest == (0 : Int))) == false) && ((((x16 == (cond ((x21) == true) (atI x1.Parts x11) default).Node)) == true) && ((x21) == true))) (atI x1.Parts x11) default).Done)))) == false) && ((x21) == true)) (atI x1.Parts x11) default).Dest) && (sLt x3 (cond ((((x16 == (cond (((((x16 == (cond ((x21) == true) (atI x1.Parts x11) default).Node) && (((cond ((((x16 == (cond ((x21) == true) (atI x1.Parts x11) default).Node)) == true) && ((x21) == true)) (atI x1.Parts x11) default).Dest == (0 : Int)) || (!sLt x3 (cond (((((cond ((((x16 == (cond ((x21) == true) (atI x1.Parts x11) default).Node)) == true) && ((x21) == true)) (atI x1.Parts x11) default).Dest == (0 : Int))) == false) && ((((x16 == (cond ((x21) == true) (atI x1.Parts x11) default).Node)) == true) && ((x21) == true))) (atI x1.Parts x11) default).Done)))) == false) && ((x21) == true)) (atI x1.Parts x11) default).Dest)) == true) && (((((x16 == (cond ((x21) == true) (atI x1.Parts x11) default).Node) && (((cond ((((x16 == (cond ((x21) == true) (atI x1.Parts x11) default).Node)) == true) && ((x21) == true)) (atI x1.Parts x11) default).Dest == (0 : Int)) || (!sLt x3 (cond (((((cond ((((x16 == (cond ((x21) == true) (atI x1.Parts x11) default).Node)) == true) && ((x21) == true)) (atI x1.Parts x11) default).Dest == (0 : Int))) == false) && ((((x16 == (cond ((x21) == true) (atI x1.Parts x11) default).Node)) == true) && ((x21) == true))) (atI x1.Parts x11) default).Done)))) == false) && ((x21) == true))) (atI x1.Parts x11) default).Done)))) && x35))))))))) (fun J22 => (F_clockworklaw29_PlacementOwners_L1 x17 x16 J22 (((((x17).length : Nat) : Int)).toNat + 1) false ((0 : Int)))))))))) (fun J12 => (F_clockworklaw29_PlacementOwners_L2 x1 x3 J12 (((((x1.Parts).length : Nat) : Int)).toNat + 1) ((0 : Int)) ((-1 : Int)) ((0 : Int)))))))))

set_option maxRecDepth 100000 in
theorem W_clockworklaw29_PlacementOwners {V : View} (x1 : TPlacement) (x3 : Str) {a2 : Option Addr} {k2 : Nat} (h2 : SlAt cTPart V a2 k2 x1.Parts) {r : Bool} (hF : F_clockworklaw29_PlacementOwners x1 x3 = some r) :
    Spec Try.prog 8 [.agg ⟨[.int .i64 (x1.Version), .slice a2 ((x1.Parts).length) (k2)]⟩, .string ⟨⟨x3⟩⟩] V (fun _ v => v = .bool (r)) := by
  unfold F_clockworklaw29_PlacementOwners at hF
  refine Spec.enter (T := tyT) Try.func8 rfl (by kernel_rfl) rfl rfl rfl ?_
  refine Exec.run tyOk 400 rfl ?_
  obtain ⟨x4, hx4, hF⟩ := bnd_some hF
  refine Exec.callS (.bool (x4)) rfl rfl (W_clockworklaw29_few x1 h2 hx4) ?_
  refine Exec.run tyOk 400 rfl ?_
  rcases cond_some hF with ⟨hb, hF⟩ | ⟨hb, hF⟩
  · skip
    refine Exec.ifT rfl hb ?_
    refine Exec.run tyOk 400 rfl ?_
    obtain ⟨x5, hx5, hF⟩ := bnd_some hF
    refine Exec.callS (.bool (x5)) rfl rfl (W_clockworklaw29_works   hx5) ?_
    refine Exec.run tyOk 400 rfl ?_
    obtain rfl := some_inj hF
    exact Exec.ret tyOk rfl rfl rfl
  · skip
    refine Exec.ifF rfl hb ?_
    refine Exec.run tyOk 400 rfl ?_
    obtain ⟨x6, hx6, hF⟩ := bnd_some hF
    refine Exec.callS (.bool (x6)) rfl rfl (W_clockworkref29_Valid x1 h2 hx6) ?_
    refine Exec.run tyOk 400 rfl ?_
    rcases cond_some hF with ⟨hb, hF⟩ | ⟨hb, hF⟩
    · skip
      refine Exec.ifT rfl hb ?_
      refine Exec.run tyOk 400 rfl ?_
      obtain ⟨x7, hx7, hF⟩ := bnd_some hF
      refine Exec.callS (.int .i64 (x7)) rfl rfl (W_placement_Owner x1 x3 h2 hx7) ?_
      refine Exec.run tyOk 400 rfl ?_
      obtain ⟨x8, hx8, hF⟩ := bnd_some hF
      refine Exec.callS (.int .i64 (x8)) rfl rfl (fun gg0 => W_placement_Index x1 x3 h2 (gcall_some hx8 (gd1_of gg0))) ?_
      refine Exec.run tyOk 400 rfl ?_
      obtain ⟨x9, hx9, hF⟩ := bnd_some hF
      refine Exec.callS (.bool (x9)) rfl rfl (fun gg0 => W_clockworklaw29_works   (gcall_some hx9 (gd1_of gg0))) ?_
      refine Exec.run tyOk 400 rfl ?_
      obtain rfl := some_inj hF
      exact Exec.ret tyOk rfl rfl rfl
    · skip
      refine Exec.ifF rfl hb ?_
      refine Exec.run tyOk 11 rfl ?_
      obtain ⟨J12, hJ12, hF⟩ := jn_some hF
      refine Exec.seam (fun L' V' M' => ∃ (x10 : Int) (x11 : Int), L' = [(1, .v (.string ⟨⟨x3⟩⟩)), (2, .ptr 0 0), (5, .v (.int .i64 (x10))), (6, .v (.int .i64 (x11)))] ∧ M' = [.blk [.v (.int .i64 (x1.Version)), .v (.slice a2 ((x1.Parts).length) (k2))] 24] ∧ SlAt cTPart V' a2 k2 x1.Parts ∧ J12 x10 x11 = some r) rfl ?_ ?_
      · rintro L' V13 M' ⟨x10, x11, rfl, rfl, h14, hF⟩
        subst hJ12
        refine Exec.run tyOk 400 rfl ?_
        obtain ⟨x15, hx15, hF⟩ := bnd_some hF
        refine Exec.callS (.int .i64 (x15)) rfl rfl (fun gg0 => W_placement_Index x1 x3 h14 (gcall_some hx15 (gd1_of gg0))) ?_
        refine Exec.run tyOk 400 rfl ?_
        rcases cond_some hF with ⟨hb, hF⟩ | ⟨hb, hF⟩
        · skip
          refine Exec.ifT rfl hb ?_
          refine Exec.run tyOk 400 rfl ?_
          obtain rfl := some_inj hF
          exact Exec.ret tyOk rfl rfl rfl
        · skip
          refine Exec.ifF rfl hb ?_
          refine Exec.run tyOk 400 rfl ?_
          refine Exec.draws tyOk [(0, true), (1, true), (3, true), (2, false), (4, false), (5, false), (6, false)] rfl (by kernel_rfl) ?_
          refine Exec.run tyOk 400 rfl ?_
          obtain ⟨x16, hx16, hF⟩ := bnd_some hF
          refine Exec.callS (.int .i64 (x16)) rfl rfl (W_placement_Owner x1 x3 h14 hx16) ?_
          refine Exec.run tyOk 400 rfl ?_
          obtain ⟨x17, hx17, hF⟩ := bnd_some hF
          refine Exec.call rfl rfl (W_placement_Nodes x1 h14 hx17) ?_
          rintro V19 _ hv19 ⟨a18, k18, rfl, h18⟩
          have h20 := SlAt.mono h14 hv19
          refine Exec.run tyOk 17 rfl ?_
          obtain ⟨J22, hJ22, hF⟩ := jn_some hF
          refine Exec.seam (fun L' V' M' => ∃ (x21 : Bool), L' = [(1, .v (.string ⟨⟨x3⟩⟩)), (2, .ptr 0 0), (6, .v (.int .i64 (x11))), (10, .v (.int .i64 (x16))), (12, .v (.bool (x21)))] ∧ M' = [.blk [.v (.int .i64 (x1.Version)), .v (.slice a2 ((x1.Parts).length) (k2))] 24] ∧ SlAt cTPart V' a2 k2 x1.Parts ∧ J22 x21 = some r) rfl ?_ ?_
          · rintro L' V23 M' ⟨x21, rfl, rfl, h24, hF⟩
            subst hJ22
            refine Exec.run tyOk 400 rfl ?_
            obtain ⟨q25, hF⟩ := req_some hF
            obtain ⟨c26, hr26, hd26⟩ := SlAt.gget ((x21) == true) h24 q25
            obtain rfl := hr26
            refine Exec.ia tyOk rfl rfl (fun gg0 => ⟨(q25 (gd1_of gg0)).1, (q25 (gd1_of gg0)).2, (hd26 (gd1_of gg0)).some⟩) ?_
            refine Exec.run tyOk 400 rfl ?_
            refine Exec.ld tyOk (x := .int .i64 ((cond ((x21) == true) (atI x1.Parts x11) default).Node)) rfl rfl (fun gg0 => (RdAt.part (hd26 (gd1_of gg0)) 2 1 rfl)) rfl rfl ?_
            refine Exec.run tyOk 400 rfl ?_
            obtain ⟨q27, hF⟩ := req_some hF
            obtain ⟨c28, hr28, hd28⟩ := SlAt.gget ((((x16 == (cond ((x21) == true) (atI x1.Parts x11) default).Node)) == true) && ((x21) == true)) h24 q27
            obtain rfl := hr28
            refine Exec.ia tyOk rfl rfl (fun gg0 gg1 => ⟨(q27 (gd2_of gg0 gg1)).1, (q27 (gd2_of gg0 gg1)).2, (hd28 (gd2_of gg0 gg1)).some⟩) ?_
            refine Exec.run tyOk 400 rfl ?_
            refine Exec.ld tyOk (x := .int .i64 ((cond ((((x16 == (cond ((x21) == true) (atI x1.Parts x11) default).Node)) == true) && ((x21) == true)) (atI x1.Parts x11) default).Dest)) rfl rfl (fun gg0 gg1 => (RdAt.part (hd28 (gd2_of gg0 gg1)) 3 1 rfl)) rfl rfl ?_
            refine Exec.run tyOk 400 rfl ?_
            obtain ⟨q29, hF⟩ := req_some hF
            obtain ⟨c30, hr30, hd30⟩ := SlAt.gget (((((cond ((((x16 == (cond ((x21) == true) (atI x1.Parts x11) default).Node)) == true) && ((x21) == true)) (atI x1.Parts x11) default).Dest == (0 : Int))) == false) && ((((x16 == (cond ((x21) == true) (atI x1.Parts x11) default).Node)) == true) && ((x21) == true))) h24 q29
            obtain rfl := hr30
            refine Exec.ia tyOk rfl rfl (fun gg0 gg1 gg2 => ⟨(q29 (gd3_of gg0 gg1 gg2)).1, (q29 (gd3_of gg0 gg1 gg2)).2, (hd30 (gd3_of gg0 gg1 gg2)).some⟩) ?_
            refine Exec.run tyOk 400 rfl ?_
            refine Exec.ld tyOk (x := .string ⟨⟨(cond (((((cond ((((x16 == (cond ((x21) == true) (atI x1.Parts x11) default).Node)) == true) && ((x21) == true)) (atI x1.Parts x11) default).Dest == (0 : Int))) == false) && ((((x16 == (cond ((x21) == true) (atI x1.Parts x11) default).Node)) == true) && ((x21) == true))) (atI x1.Parts x11) default).Done⟩⟩) rfl rfl (fun gg0 gg1 gg2 => (RdAt.part (hd30 (gd3_of gg0 gg1 gg2)) 4 1 rfl)) rfl rfl ?_
            refine Exec.run tyOk 400 rfl ?_
            obtain ⟨q31, hF⟩ := req_some hF
            obtain ⟨c32, hr32, hd32⟩ := SlAt.gget (((((x16 == (cond ((x21) == true) (atI x1.Parts x11) default).Node) && (((cond ((((x16 == (cond ((x21) == true) (atI x1.Parts x11) default).Node)) == true) && ((x21) == true)) (atI x1.Parts x11) default).Dest == (0 : Int)) || (!sLt x3 (cond (((((cond ((((x16 == (cond ((x21) == true) (atI x1.Parts x11) default).Node)) == true) && ((x21) == true)) (atI x1.Parts x11) default).Dest == (0 : Int))) == false) && ((((x16 == (cond ((x21) == true) (atI x1.Parts x11) default).Node)) == true) && ((x21) == true))) (atI x1.Parts x11) default).Done)))) == false) && ((x21) == true)) h24 q31
            obtain rfl := hr32
            refine Exec.ia tyOk rfl rfl (fun gg0 gg1 => ⟨(q31 (gd2_of gg0 gg1)).1, (q31 (gd2_of gg0 gg1)).2, (hd32 (gd2_of gg0 gg1)).some⟩) ?_
            refine Exec.run tyOk 400 rfl ?_
            refine Exec.ld tyOk (x := .int .i64 ((cond (((((x16 == (cond ((x21) == true) (atI x1.Parts x11) default).Node) && (((cond ((((x16 == (cond ((x21) == true) (atI x1.Parts x11) default).Node)) == true) && ((x21) == true)) (atI x1.Parts x11) default).Dest == (0 : Int)) || (!sLt x3 (cond (((((cond ((((x16 == (cond ((x21) == true) (atI x1.Parts x11) default).Node)) == true) && ((x21) == true)) (atI x1.Parts x11) default).Dest == (0 : Int))) == false) && ((((x16 == (cond ((x21) == true) (atI x1.Parts x11) default).Node)) == true) && ((x21) == true))) (atI x1.Parts x11) default).Done)))) == false) && ((x21) == true)) (atI x1.Parts x11) default).Dest)) rfl rfl (fun gg0 gg1 => (RdAt.part (hd32 (gd2_of gg0 gg1)) 3 1 rfl)) rfl rfl ?_
            refine Exec.run tyOk 400 rfl ?_
            obtain ⟨q33, hF⟩ := req_some hF
            obtain ⟨c34, hr34, hd34⟩ := SlAt.gget ((((x16 == (cond (((((x16 == (cond ((x21) == true) (atI x1.Parts x11) default).Node) && (((cond ((((x16 == (cond ((x21) == true) (atI x1.Parts x11) default).Node)) == true) && ((x21) == true)) (atI x1.Parts x11) default).Dest == (0 : Int)) || (!sLt x3 (cond (((((cond ((((x16 == (cond ((x21) == true) (atI x1.Parts x11) default).Node)) == true) && ((x21) == true)) (atI x1.Parts x11) default).Dest == (0 : Int))) == false) && ((((x16 == (cond ((x21) == true) (atI x1.Parts x11) default).Node)) == true) && ((x21) == true))) (atI x1.Parts x11) default).Done)))) == false) && ((x21) == true)) (atI x1.Parts x11) default).Dest)) == true) && (((((x16 == (cond ((x21) == true) (atI x1.Parts x11) default).Node) && (((cond ((((x16 == (cond ((x21) == true) (atI x1.Parts x11) default).Node)) == true) && ((x21) == true)) (atI x1.Parts x11) default).Dest == (0 : Int)) || (!sLt x3 (cond (((((cond ((((x16 == (cond ((x21) == true) (atI x1.Parts x11) default).Node)) == true) && ((x21) == true)) (atI x1.Parts x11) default).Dest == (0 : Int))) == false) && ((((x16 == (cond ((x21) == true) (atI x1.Parts x11) default).Node)) == true) && ((x21) == true))) (atI x1.Parts x11) default).Done)))) == false) && ((x21) == true))) h24 q33
            obtain rfl := hr34
            refine Exec.ia tyOk rfl rfl (fun gg0 gg1 gg2 => ⟨(q33 (gd3_of gg0 gg1 gg2)).1, (q33 (gd3_of gg0 gg1 gg2)).2, (hd34 (gd3_of gg0 gg1 gg2)).some⟩) ?_
            refine Exec.run tyOk 400 rfl ?_
            refine Exec.ld tyOk (x := .string ⟨⟨(cond ((((x16 == (cond (((((x16 == (cond ((x21) == true) (atI x1.Parts x11) default).Node) && (((cond ((((x16 == (cond ((x21) == true) (atI x1.Parts x11) default).Node)) == true) && ((x21) == true)) (atI x1.Parts x11) default).Dest == (0 : Int)) || (!sLt x3 (cond (((((cond ((((x16 == (cond ((x21) == true) (atI x1.Parts x11) default).Node)) == true) && ((x21) == true)) (atI x1.Parts x11) default).Dest == (0 : Int))) == false) && ((((x16 == (cond ((x21) == true) (atI x1.Parts x11) default).Node)) == true) && ((x21) == true))) (atI x1.Parts x11) default).Done)))) == false) && ((x21) == true)) (atI x1.Parts x11) default).Dest)) == true) && (((((x16 == (cond ((x21) == true) (atI x1.Parts x11) default).Node) && (((cond ((((x16 == (cond ((x21) == true) (atI x1.Parts x11) default).Node)) == true) && ((x21) == true)) (atI x1.Parts x11) default).Dest == (0 : Int)) || (!sLt x3 (cond (((((cond ((((x16 == (cond ((x21) == true) (atI x1.Parts x11) default).Node)) == true) && ((x21) == true)) (atI x1.Parts x11) default).Dest == (0 : Int))) == false) && ((((x16 == (cond ((x21) == true) (atI x1.Parts x11) default).Node)) == true) && ((x21) == true))) (atI x1.Parts x11) default).Done)))) == false) && ((x21) == true))) (atI x1.Parts x11) default).Done⟩⟩) rfl rfl (fun gg0 gg1 gg2 => (RdAt.part (hd34 (gd3_of gg0 gg1 gg2)) 4 1 rfl)) rfl rfl ?_
            refine Exec.run tyOk 400 rfl ?_
            obtain ⟨x35, hx35, hF⟩ := bnd_some hF
            refine Exec.callS (.bool (x35)) rfl rfl (fun gg0 => W_clockworklaw29_works   (gcall_some hx35 (gd1_of gg0))) ?_
            refine Exec.run tyOk 400 rfl ?_
            obtain rfl := some_inj hF
            exact Exec.ret tyOk rfl rfl rfl
          · skip
            refine Exec.run tyOk 400 rfl ?_
            refine Exec.loop (fun n38 L' V' M' => ∃ (x36 : Bool) (x37 : Int), L' = [(1, .v (.string ⟨⟨x3⟩⟩)), (2, .ptr 0 0), (6, .v (.int .i64 (x11))), (10, .v (.int .i64 (x16))), (11, .v (.slice a18 ((x17).length) (k18))), (12, .v (.bool (x36))), (13, .v (.int .i64 (x37)))] ∧ M' = [.blk [.v (.int .i64 (x1.Version)), .v (.slice a2 ((x1.Parts).length) (k2))] 24] ∧ SlAt (cInt .i64) V' a18 k18 x17 ∧ SlAt cTPart V' a2 k2 x1.Parts ∧ F_clockworklaw29_PlacementOwners_L1 x17 x16 J22 n38 x36 x37 = some r) ⟨(((((x17).length : Nat) : Int)).toNat + 1), [(1, .v (.string ⟨⟨x3⟩⟩)), (2, .ptr 0 0), (6, .v (.int .i64 (x11))), (10, .v (.int .i64 (x16))), (11, .v (.slice a18 ((x17).length) (k18))), (12, .v (.bool (false))), (13, .v (.int .i64 ((0 : Int))))], ⟨rfl, rfl, rfl, rfl, rfl, rfl, rfl, trivial⟩, false, (0 : Int), rfl, rfl, h18, h20, hF⟩ ?_
            rintro n38 L' V39 M' ⟨x36, x37, rfl, rfl, h40, h41, hF⟩
            rcases n38 with _ | n38
            · exact absurd hF (by simp [F_clockworklaw29_PlacementOwners_L1])
            rw [F_clockworklaw29_PlacementOwners_L1] at hF
            refine Exec.run tyOk 400 rfl ?_
            rcases cond_some hF with ⟨hb, hF⟩ | ⟨hb, hF⟩
            · skip
              refine Exec.ifT rfl hb ?_
              refine Exec.run tyOk 400 rfl ?_
              obtain ⟨q42, hF⟩ := req_some hF
              obtain ⟨c43, hr43, hd43⟩ := SlAt.gget ((x36) == false) h40 q42
              obtain rfl := hr43
              refine Exec.ia tyOk rfl rfl (fun gg0 => ⟨(q42 (gd1_of gg0)).1, (q42 (gd1_of gg0)).2, (hd43 (gd1_of gg0)).some⟩) ?_
              refine Exec.run tyOk 400 rfl ?_
              refine Exec.ld tyOk (x := .int .i64 ((cond ((x36) == false) (atI x17 x37) default))) rfl rfl (fun gg0 => (hd43 (gd1_of gg0))) rfl rfl ?_
              refine Exec.run tyOk 400 rfl ?_
              exact Exec.round [(1, .v (.string ⟨⟨x3⟩⟩)), (2, .ptr 0 0), (6, .v (.int .i64 (x11))), (10, .v (.int .i64 (x16))), (11, .v (.slice a18 ((x17).length) (k18))), (12, .v (.bool ((x36 || ((cond ((x36) == false) (atI x17 x37) default) == x16))))), (13, .v (.int .i64 ((IntKind.i64.wrap (x37 + (1 : Int))))))] ⟨rfl, rfl, rfl, rfl, rfl, rfl, rfl, trivial⟩ ⟨n38, Nat.lt_succ_self _, (x36 || ((cond ((x36) == false) (atI x17 x37) default) == x16)), (IntKind.i64.wrap (x37 + (1 : Int))), rfl, rfl, h40, h41, hF⟩
            · skip
              refine Exec.ifF rfl hb ?_
              refine Exec.run tyOk 400 rfl ?_
              exact Exec.round [(1, .v (.string ⟨⟨x3⟩⟩)), (2, .ptr 0 0), (6, .v (.int .i64 (x11))), (10, .v (.int .i64 (x16))), (12, .v (.bool (x36)))] ⟨rfl, rfl, rfl, rfl, rfl, trivial⟩ ⟨x36, rfl, rfl, h41, hF⟩
      · skip
        refine Exec.run tyOk 400 rfl ?_
        refine Exec.loop (fun n47 L' V' M' => ∃ (x44 : Int) (x45 : Int) (x46 : Int), L' = [(1, .v (.string ⟨⟨x3⟩⟩)), (2, .ptr 0 0), (5, .v (.int .i64 (x44))), (6, .v (.int .i64 (x45))), (7, .v (.int .i64 (x46)))] ∧ M' = [.blk [.v (.int .i64 (x1.Version)), .v (.slice a2 ((x1.Parts).length) (k2))] 24] ∧ SlAt cTPart V' a2 k2 x1.Parts ∧ F_clockworklaw29_PlacementOwners_L2 x1 x3 J12 n47 x44 x45 x46 = some r) ⟨(((((x1.Parts).length : Nat) : Int)).toNat + 1), [(1, .v (.string ⟨⟨x3⟩⟩)), (2, .ptr 0 0), (5, .v (.int .i64 ((0 : Int)))), (6, .v (.int .i64 ((-1 : Int)))), (7, .v (.int .i64 ((0 : Int))))], ⟨rfl, rfl, rfl, rfl, rfl, trivial⟩, (0 : Int), (-1 : Int), (0 : Int), rfl, rfl, h2, hF⟩ ?_
        rintro n47 L' V48 M' ⟨x44, x45, x46, rfl, rfl, h49, hF⟩
        rcases n47 with _ | n47
        · exact absurd hF (by simp [F_clockworklaw29_PlacementOwners_L2])
        rw [F_clockworklaw29_PlacementOwners_L2] at hF
        refine Exec.run tyOk 400 rfl ?_
        rcases cond_some hF with ⟨hb, hF⟩ | ⟨hb, hF⟩
        · skip
          refine Exec.ifT rfl hb ?_
          refine Exec.run tyOk 400 rfl ?_
          refine Exec.drawsE tyOk [] [] [(0, true), (1, true), (2, true), (3, true), (4, true), (5, true), (6, true)] (by kernel_rfl) ?_
          refine Exec.run tyOk 400 rfl ?_
          obtain ⟨q50, hF⟩ := req_some hF
          obtain ⟨c51, hr51, hd51⟩ := SlAt.get h49 q50
          obtain rfl := hr51
          refine Exec.fia tyOk rfl rfl rfl ⟨q50.1, q50.2, hd51.some⟩ ?_
          refine Exec.run tyOk 400 rfl ?_
          refine Exec.fld tyOk (x := .int .i64 ((atI x1.Parts x46).Id)) rfl rfl rfl (RdAt.part hd51 0 1 rfl) rfl rfl ?_
          refine Exec.run tyOk 400 rfl ?_
          obtain ⟨x52, hx52, hF⟩ := bnd_some hF
          refine Exec.fork 7 11 [(8, true), (9, true), (10, true), (11, false)] [(7, false), (8, true), (9, true), (10, true)] [(12, false), (13, true)] (fun lr' L' V' M' => lr' = [] ∧ L' = [(1, .v (.string ⟨⟨x3⟩⟩)), (2, .ptr 0 0), (5, .v (.int .i64 (x44))), (6, .v (.int .i64 (x45))), (7, .v (.int .i64 (x46))), (8, .ptr 1 0), (55, .v (.agg ⟨[.string ⟨⟨x52.1.From⟩⟩, .string ⟨⟨x52.1.To⟩⟩]⟩)), (56, .v (.int .i64 (x52.2)))] ∧ M' = [.blk [.v (.int .i64 (x1.Version)), .v (.slice a2 ((x1.Parts).length) (k2))] 24, .blk [.v (.string ⟨⟨[]⟩⟩), .v (.string ⟨⟨[]⟩⟩)] 33] ∧ SlAt cTPart V' a2 k2 x1.Parts) 2 [true, true, true, true, true, true, true, true, true, true, true, true, false, false] rfl (by kernel_rfl) rfl rfl (by kernel_rfl) (by kernel_rfl) (by kernel_rfl) (by kernel_rfl) (fun join => ?_) (fun join => ?_) ?_
          · skip
            refine Exec.run tyOk 400 rfl ?_
            refine Exec.callS (.tuple ⟨[.agg ⟨[.string ⟨⟨x52.1.From⟩⟩, .string ⟨⟨x52.1.To⟩⟩]⟩, .int .i64 (x52.2)]⟩) rfl rfl (W_placement_Range x1 ((atI x1.Parts x46).Id) h49 hx52) ?_
            refine Exec.run tyOk 400 rfl ?_
            exact join [0, 1] (lr' := []) (L' := [(1, .v (.string ⟨⟨x3⟩⟩)), (2, .ptr 0 0), (5, .v (.int .i64 (x44))), (6, .v (.int .i64 (x45))), (7, .v (.int .i64 (x46))), (8, .ptr 1 0), (55, .v (.agg ⟨[.string ⟨⟨x52.1.From⟩⟩, .string ⟨⟨x52.1.To⟩⟩]⟩)), (56, .v (.int .i64 (x52.2)))]) rfl rfl rfl rfl ⟨⟨_, rfl, rfl⟩, ⟨_, rfl, rfl⟩, ⟨_, rfl, rfl⟩, ⟨_, rfl, rfl⟩, ⟨_, rfl, rfl⟩, ⟨_, rfl, rfl⟩, ⟨_, rfl, rfl⟩, ⟨_, rfl, rfl⟩, trivial⟩ trivial ⟨rfl, rfl, rfl, h49⟩
          · skip
            refine Exec.run tyOk 400 rfl ?_
            refine Exec.callS (.tuple ⟨[.agg ⟨[.string ⟨⟨x52.1.From⟩⟩, .string ⟨⟨x52.1.To⟩⟩]⟩, .int .i64 (x52.2)]⟩) rfl rfl (W_placement_Range x1 ((atI x1.Parts x46).Id) h49 hx52) ?_
            refine Exec.run tyOk 400 rfl ?_
            exact join [0, 1] (lr' := []) (L' := [(1, .v (.string ⟨⟨x3⟩⟩)), (2, .ptr 0 0), (5, .v (.int .i64 (x44))), (6, .v (.int .i64 (x45))), (7, .v (.int .i64 (x46))), (8, .ptr 1 0), (55, .v (.agg ⟨[.string ⟨⟨x52.1.From⟩⟩, .string ⟨⟨x52.1.To⟩⟩]⟩)), (56, .v (.int .i64 (x52.2)))]) rfl rfl rfl rfl ⟨⟨_, rfl, rfl⟩, ⟨_, rfl, rfl⟩, ⟨_, rfl, rfl⟩, ⟨_, rfl, rfl⟩, ⟨_, rfl, rfl⟩, ⟨_, rfl, rfl⟩, ⟨_, rfl, rfl⟩, ⟨_, rfl, rfl⟩, trivial⟩ trivial ⟨rfl, rfl, rfl, h49⟩
          rintro lr' L' VV53 M' ⟨rfl, rfl, rfl, h54⟩
          refine Exec.run tyOk 400 rfl ?_
          rcases cond_some hF with ⟨hb, hF⟩ | ⟨hb, hF⟩
          · skip
            refine Exec.ifT rfl hb ?_
            refine Exec.run tyOk 400 rfl ?_
            obtain rfl := some_inj hF
            exact Exec.ret tyOk rfl rfl rfl
          · skip
            refine Exec.ifF rfl hb ?_
            refine Exec.run tyOk 400 rfl ?_
            obtain ⟨J57, hJ57, hF⟩ := jn_some hF
            refine Exec.seam (fun L' V' M' => ∃ (x55 : Int) (x56 : Int), L' = [(1, .v (.string ⟨⟨x3⟩⟩)), (2, .ptr 0 0), (5, .v (.int .i64 (x55))), (6, .v (.int .i64 (x56))), (7, .v (.int .i64 (x46)))] ∧ M' = [.blk [.v (.int .i64 (x1.Version)), .v (.slice a2 ((x1.Parts).length) (k2))] 24] ∧ SlAt cTPart V' a2 k2 x1.Parts ∧ J57 x55 x56 = some r) rfl ?_ ?_
            · rintro L' V58 M' ⟨x55, x56, rfl, rfl, h59, hF⟩
              subst hJ57
              refine Exec.run tyOk 400 rfl ?_
              exact Exec.round [(1, .v (.string ⟨⟨x3⟩⟩)), (2, .ptr 0 0), (5, .v (.int .i64 (x55))), (6, .v (.int .i64 (x56))), (7, .v (.int .i64 ((IntKind.i64.wrap (x46 + (1 : Int))))))] ⟨rfl, rfl, rfl, rfl, rfl, trivial⟩ ⟨n47, Nat.lt_succ_self _, x55, x56, (IntKind.i64.wrap (x46 + (1 : Int))), rfl, rfl, h59, hF⟩
            · skip
              refine Exec.run tyOk 400 rfl ?_
              rcases cond_some hF with ⟨hb, hF⟩ | ⟨hb, hF⟩
              · skip
                refine Exec.ifT rfl hb ?_
                refine Exec.run tyOk 400 rfl ?_
                refine Exec.cut 1 [(1, .v (.string ⟨⟨x3⟩⟩)), (2, .ptr 0 0), (5, .v (.int .i64 ((IntKind.i64.wrap (x44 + (1 : Int)))))), (6, .v (.int .i64 (x46))), (7, .v (.int .i64 (x46)))] (M' := [.blk [.v (.int .i64 (x1.Version)), .v (.slice a2 ((x1.Parts).length) (k2))] 24]) rfl ⟨rfl, rfl, rfl, rfl, rfl, trivial⟩ rfl rfl rfl ?_
                exact Exec.round [(1, .v (.string ⟨⟨x3⟩⟩)), (2, .ptr 0 0), (5, .v (.int .i64 ((IntKind.i64.wrap (x44 + (1 : Int)))))), (6, .v (.int .i64 (x46))), (7, .v (.int .i64 (x46)))] ⟨rfl, rfl, rfl, rfl, rfl, trivial⟩ ⟨(IntKind.i64.wrap (x44 + (1 : Int))), x46, rfl, rfl, h54, hF⟩
              · skip
                refine Exec.ifF rfl hb ?_
                refine Exec.run tyOk 400 rfl ?_
                refine Exec.cut 1 [(1, .v (.string ⟨⟨x3⟩⟩)), (2, .ptr 0 0), (5, .v (.int .i64 (x44))), (6, .v (.int .i64 (x45))), (7, .v (.int .i64 (x46)))] (M' := [.blk [.v (.int .i64 (x1.Version)), .v (.slice a2 ((x1.Parts).length) (k2))] 24]) rfl ⟨rfl, rfl, rfl, rfl, rfl, trivial⟩ rfl rfl rfl ?_
                exact Exec.round [(1, .v (.string ⟨⟨x3⟩⟩)), (2, .ptr 0 0), (5, .v (.int .i64 (x44))), (6, .v (.int .i64 (x45))), (7, .v (.int .i64 (x46)))] ⟨rfl, rfl, rfl, rfl, rfl, trivial⟩ ⟨x44, x45, rfl, rfl, h54, hF⟩
        · skip
          refine Exec.ifF rfl hb ?_
          refine Exec.run tyOk 400 rfl ?_
          exact Exec.round [(1, .v (.string ⟨⟨x3⟩⟩)), (2, .ptr 0 0), (5, .v (.int .i64 (x44))), (6, .v (.int .i64 (x45)))] ⟨rfl, rfl, rfl, rfl, trivial⟩ ⟨x44, x45, rfl, rfl, h49, hF⟩

end Go.Proofs.Ytdkakeiccefbgaa
