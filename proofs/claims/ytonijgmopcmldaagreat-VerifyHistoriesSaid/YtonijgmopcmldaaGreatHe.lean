/-
  Functions of the program as their counterparts say them (printed by a program).
  Conditions: none.
-/
import Derived.Test.YtonijgmopcmldaaGreatHd
set_option linter.all false
namespace Go.Proofs.YtonijgmopcmldaaGreat

def F_digest_Pair (x1 : TPair) : Option Int :=
  (bnd (F_checksum_FNV x1.Key) fun x2 => (bnd (F_value_Encode ((⟨x1.Val.Kind, x1.Val.N, x1.Val.S⟩ : TValue))) fun x3 => (bnd (F_checksum_FNV x3) fun x4 => (bnd (F_checksum_Mix x2 x4) fun x5 => (some x5)))))

set_option maxRecDepth 100000 in
theorem W_digest_Pair {V : View} (x1 : TPair)   {r : Int} (hF : F_digest_Pair x1 = some r) :
    Spec Tryz.prog 53 [.agg ⟨[.string ⟨⟨x1.Key⟩⟩, .int .i64 (x1.Val.Kind), .int .i64 (x1.Val.N), .string ⟨⟨x1.Val.S⟩⟩]⟩] V (fun _ v => v = .int .u64 (r)) := by
  unfold F_digest_Pair at hF
  refine Spec.enter (T := tyT) Tryz.func53 rfl (by kernel_rfl) rfl rfl rfl ?_
  refine Exec.run tyOk 400 rfl ?_
  refine Exec.draws tyOk [(0, true), (1, true), (3, true), (4, true), (2, false), (5, false), (6, false), (7, false), (8, false)] rfl (by kernel_rfl) ?_
  refine Exec.run tyOk 400 rfl ?_
  obtain ⟨x2, hx2, hF⟩ := bnd_some hF
  refine Exec.callS (.int .u64 (x2)) rfl rfl (W_checksum_FNV x1.Key  hx2) ?_
  refine Exec.run tyOk 400 rfl ?_
  obtain ⟨x3, hx3, hF⟩ := bnd_some hF
  refine Exec.callS (.string ⟨⟨x3⟩⟩) rfl rfl (W_value_Encode ((⟨x1.Val.Kind, x1.Val.N, x1.Val.S⟩ : TValue))  hx3) ?_
  refine Exec.run tyOk 400 rfl ?_
  obtain ⟨x4, hx4, hF⟩ := bnd_some hF
  refine Exec.callS (.int .u64 (x4)) rfl rfl (W_checksum_FNV x3  hx4) ?_
  refine Exec.run tyOk 400 rfl ?_
  obtain ⟨x5, hx5, hF⟩ := bnd_some hF
  refine Exec.callS (.int .u64 (x5)) rfl rfl (W_checksum_Mix x2 x4  hx5) ?_
  refine Exec.run tyOk 400 rfl ?_
  obtain rfl := some_inj hF
  exact Exec.ret tyOk rfl rfl rfl

def F_clockworkref53_Pair (x1 : TPair) : Option Int :=
  (bnd (F_clockworkref03_FNV x1.Key) fun x2 => (bnd (F_clockworkref05_Encode ((⟨x1.Val.Kind, x1.Val.N, x1.Val.S⟩ : TValue))) fun x3 => (bnd (F_clockworkref03_FNV x3) fun x4 => (bnd (F_clockworkref03_Mix x2 x4) fun x5 => (some x5)))))

set_option maxRecDepth 100000 in
theorem W_clockworkref53_Pair {V : View} (x1 : TPair)   {r : Int} (hF : F_clockworkref53_Pair x1 = some r) :
    Spec Tryz.prog 62 [.agg ⟨[.string ⟨⟨x1.Key⟩⟩, .int .i64 (x1.Val.Kind), .int .i64 (x1.Val.N), .string ⟨⟨x1.Val.S⟩⟩]⟩] V (fun _ v => v = .int .u64 (r)) := by
  unfold F_clockworkref53_Pair at hF
  refine Spec.enter (T := tyT) Tryz.func62 rfl (by kernel_rfl) rfl rfl rfl ?_
  refine Exec.run tyOk 400 rfl ?_
  refine Exec.draws tyOk [(0, true), (1, true), (3, true), (4, true), (2, false), (5, false), (6, false), (7, false), (8, false)] rfl (by kernel_rfl) ?_
  refine Exec.run tyOk 400 rfl ?_
  obtain ⟨x2, hx2, hF⟩ := bnd_some hF
  refine Exec.callS (.int .u64 (x2)) rfl rfl (W_clockworkref03_FNV x1.Key  hx2) ?_
  refine Exec.run tyOk 400 rfl ?_
  obtain ⟨x3, hx3, hF⟩ := bnd_some hF
  refine Exec.callS (.string ⟨⟨x3⟩⟩) rfl rfl (W_clockworkref05_Encode ((⟨x1.Val.Kind, x1.Val.N, x1.Val.S⟩ : TValue))  hx3) ?_
  refine Exec.run tyOk 400 rfl ?_
  obtain ⟨x4, hx4, hF⟩ := bnd_some hF
  refine Exec.callS (.int .u64 (x4)) rfl rfl (W_clockworkref03_FNV x3  hx4) ?_
  refine Exec.run tyOk 400 rfl ?_
  obtain ⟨x5, hx5, hF⟩ := bnd_some hF
  refine Exec.callS (.int .u64 (x5)) rfl rfl (W_clockworkref03_Mix x2 x4  hx5) ?_
  refine Exec.run tyOk 400 rfl ?_
  obtain rfl := some_inj hF
  exact Exec.ret tyOk rfl rfl rfl

def F_state_Valid (x1 : List TPair) : Option Bool :=
  (bnd (F_state_sorted x1) fun x3 => (bnd (gcall ((x3) == true) (F_slices_ContainsFunc_api_Pair_api_Pair x1 (fun y0 => F_state_absent y0 ))) fun x4 => (some (x3 && (!x4)))))

set_option maxRecDepth 100000 in
theorem W_state_Valid {V : View} (x1 : List TPair) {a2 : Option Addr} {k2 : Nat} (h2 : SlAt cTPair V a2 k2 x1) {r : Bool} (hF : F_state_Valid x1 = some r) :
    Spec Tryz.prog 64 [.slice a2 ((x1).length) (k2)] V (fun _ v => v = .bool (r)) := by
  unfold F_state_Valid at hF
  refine Spec.enter (T := tyT) Tryz.func64 rfl (by kernel_rfl) rfl rfl rfl ?_
  refine Exec.run tyOk 400 rfl ?_
  obtain ⟨x3, hx3, hF⟩ := bnd_some hF
  refine Exec.callS (.bool (x3)) rfl rfl (W_state_sorted x1 h2 hx3) ?_
  refine Exec.run tyOk 400 rfl ?_
  obtain ⟨x4, hx4, hF⟩ := bnd_some hF
  refine Exec.callS (.bool (x4)) rfl rfl (fun gg0 => W_slices_ContainsFunc_api_Pair_api_Pair x1 (fun y0 => F_state_absent y0 ) h2 (fun V' hv y0 r hr => W_state_absent y0   hr) (gcall_some hx4 (gd1_of gg0))) ?_
  refine Exec.run tyOk 400 rfl ?_
  obtain rfl := some_inj hF
  exact Exec.ret tyOk rfl rfl rfl

def F_digest_Diff_L1 (x5 : List Int × Bool) (x9 : List Int × Bool) (J20 : (List Int) → Option (List Int)) : Nat → (List Int) → Int → Option (List Int)
  | 0, _, _ => none
  | n34 + 1, x32, x33 => (cond (decide (x33 < (64 : Int))) (req (0 ≤ x33 ∧ x33 < ((x5.1).length : Int)) (req (0 ≤ x33 ∧ x33 < ((x9.1).length : Int)) (jn (fun (x47 : List Int) => (F_digest_Diff_L1 x5 x9 J20 n34 x47 ((IntKind.i64.wrap (x33 + (1 : Int)))))) (fun J48 => (cond ((atI x5.1 x33) != (atI x9.1 x33)) (req (((x32 ++ [x33])).length * 8 ≤ 140737488355328) (J48 ((x32 ++ [x33])))) (J48 x32)))))) (J20 x32))

def F_digest_Diff (x1 : TTree) (x3 : TTree) : Option (List Int) :=
  (bnd (F_digest_buckets x1) fun x5 => (req ((x5.1).length = 64) (bnd (F_digest_buckets x3) fun x9 => (req ((x9.1).length = 64) (cond (((!x5.2) || (!x9.2)) || (x5.1 == x9.1)) (some ([] : List Int)) (jn (fun (x19 : List Int) => (some x19)) (fun J20 => (F_digest_Diff_L1 x5 x9 J20 (((64 : Int)).toNat + 1) (([] : List Int)) ((0 : Int))))))))))

set_option maxRecDepth 100000 in
theorem W_digest_Diff {V : View} (x1 : TTree) (x3 : TTree) {a2 : Option Addr} {k2 : Nat} {a4 : Option Addr} {k4 : Nat} (h2 : SlAt (cInt .u64) V a2 k2 x1.Buckets) (h4 : SlAt (cInt .u64) V a4 k4 x3.Buckets) {r : List Int} (hF : F_digest_Diff x1 x3 = some r) :
    Spec Tryz.prog 71 [.agg ⟨[.slice a2 ((x1.Buckets).length) (k2), .int .u64 (x1.Root)]⟩, .agg ⟨[.slice a4 ((x3.Buckets).length) (k4), .int .u64 (x3.Root)]⟩] V (fun V' v => ∃ (a54 : Option Addr) (k54 : Nat), v = .slice a54 ((r).length) (k54) ∧ SlAt (cInt .i64) V' a54 k54 r) := by
  unfold F_digest_Diff at hF
  refine Spec.enter (T := tyT) Tryz.func71 rfl (by kernel_rfl) rfl rfl rfl ?_
  refine Exec.run tyOk 400 rfl ?_
  obtain ⟨x5, hx5, hF⟩ := bnd_some hF
  refine Exec.callS (.tuple ⟨[.agg ⟨(x5.1).map (Value.int .u64)⟩, .bool (x5.2)]⟩) rfl rfl (W_digest_buckets x1 h2 hx5) ?_
  refine Exec.run tyOk 4 rfl ?_
  refine Exec.fixR 2 (n := 64) (sz := 1) (cs := (List.replicate 64 (.int .u64 0))) rfl rfl rfl rfl rfl (fun _ => rfl) (fun _ => rfl) (fun _ => rfl) (fun b6 => ?_)
  have h6 : RowRep (cInt .u64) V (List.replicate 64 (0 : Int)) (List.replicate 64 (.int .u64 0)) := by have := RowRep.ofInts (k := .u64) (V := V) (List.replicate 64 (0 : Int)); rwa [List.map_replicate] at this
  obtain ⟨q7, hF⟩ := req_some hF
  refine Exec.stA tyOk 2 (nv := ((x5.1).map (Value.int .u64))) rfl rfl rfl rfl rfl rfl rfl rfl (by rw [List.length_map]; exact q7) (fun u hu => by obtain ⟨_, _, rfl⟩ := List.mem_map.1 hu; rfl) rfl rfl ?_
  have h8 : RowRep (cInt .u64) V x5.1 ((x5.1).map (Value.int .u64)) := RowRep.ofInts _
  refine Exec.run tyOk 400 rfl ?_
  obtain ⟨x9, hx9, hF⟩ := bnd_some hF
  refine Exec.callS (.tuple ⟨[.agg ⟨(x9.1).map (Value.int .u64)⟩, .bool (x9.2)]⟩) rfl rfl (W_digest_buckets x3 h4 hx9) ?_
  refine Exec.run tyOk 4 rfl ?_
  refine Exec.fixR 3 (n := 64) (sz := 1) (cs := (List.replicate 64 (.int .u64 0))) rfl rfl rfl rfl rfl (fun _ => rfl) (fun _ => rfl) (fun _ => rfl) (fun b10 => ?_)
  have h10 : RowRep (cInt .u64) V (List.replicate 64 (0 : Int)) (List.replicate 64 (.int .u64 0)) := by have := RowRep.ofInts (k := .u64) (V := V) (List.replicate 64 (0 : Int)); rwa [List.map_replicate] at this
  obtain ⟨q11, hF⟩ := req_some hF
  refine Exec.stA tyOk 3 (nv := ((x9.1).map (Value.int .u64))) rfl rfl rfl rfl rfl rfl rfl rfl (by rw [List.length_map]; exact q11) (fun u hu => by obtain ⟨_, _, rfl⟩ := List.mem_map.1 hu; rfl) rfl rfl ?_
  have h12 : RowRep (cInt .u64) V x9.1 ((x9.1).map (Value.int .u64)) := RowRep.ofInts _
  refine Exec.run tyOk 400 rfl ?_
  refine Exec.ldA tyOk 2 (kd := .u64) rfl rfl rfl h8 rfl rfl (fun hl13 => ?_)
  refine Exec.run tyOk 400 rfl ?_
  refine Exec.ldA tyOk 3 (kd := .u64) rfl rfl rfl h12 rfl rfl (fun hl14 => ?_)
  refine Exec.run tyOk 400 rfl ?_
  refine Exec.binG rfl rfl rfl rfl (eqArr_run tyOk (kd := .u64) rfl rfl rfl rfl (by kernel_rfl) hl13 hl14) ?_
  refine Exec.run tyOk 400 rfl ?_
  rcases cond_some hF with ⟨hb, hF⟩ | ⟨hb, hF⟩
  · skip
    refine Exec.ifT rfl hb ?_
    refine Exec.run tyOk 400 rfl ?_
    obtain rfl := some_inj hF
    exact Exec.ret tyOk rfl rfl ⟨_, _, rfl, SlAt.nil⟩
  · skip
    refine Exec.ifF rfl hb ?_
    refine Exec.run tyOk 10 rfl ?_
    refine Exec.row0 3 1 rfl ?_
    have h15 : RowRep (cInt .i64) V ([] : List Int) [] := RowRep.nil
    obtain ⟨J20, hJ20, hF⟩ := jn_some hF
    refine Exec.seam (fun L' V' M' => ∃ (x19 : List Int) (a18 : Option Addr) (k18 : Nat) (cs18 : List Value), L' = [(9, .v (.slice a18 ((x19).length) (k18)))] ∧ M' = [.blk [.v (.slice a2 ((x1.Buckets).length) (k2)), .v (.int .u64 (x1.Root))] 50, .blk [.v (.slice a4 ((x3.Buckets).length) (k4)), .v (.int .u64 (x3.Root))] 50, .row (.slice ((some ⟨b6, 0, none⟩)) (64) (64)) (((x5.1).map (Value.int .u64))) 81 1, .row (.slice ((some ⟨b10, 0, none⟩)) (64) (64)) (((x9.1).map (Value.int .u64))) 81 1, .row (.slice a18 ((x19).length) (k18)) cs18 3 1] ∧ RowRep (cInt .u64) V' x5.1 (((x5.1).map (Value.int .u64))) ∧ RowRep (cInt .u64) V' x9.1 (((x9.1).map (Value.int .u64))) ∧ RowRep (cInt .i64) V' x19 cs18 ∧ SlAt (cInt .u64) V' a2 k2 x1.Buckets ∧ SlAt (cInt .u64) V' a4 k4 x3.Buckets ∧ J20 x19 = some r) rfl ?_ ?_
    · rintro L' V21 M' ⟨x19, a18, k18, cs18, rfl, rfl, h16, h17, h18, h22, h23, hF⟩
      subst hJ20
      refine Exec.run tyOk 400 rfl ?_
      refine Exec.frz 4 rfl rfl rfl (fun V24 hv24 hd24 hn24 => ?_)
      have hz24 := RowRep.slat h18 hv24 hd24 hn24
      have h25 := SlAt.mono h22 hv24
      have h26 := SlAt.mono h23 hv24
      have h27 := RowRep.mono hv24 h16
      have h28 := RowRep.mono hv24 h17
      obtain rfl := some_inj hF
      exact Exec.ret tyOk rfl rfl ⟨_, _, rfl, hz24⟩
    · skip
      refine Exec.run tyOk 400 rfl ?_
      refine Exec.loop (fun n34 L' V' M' => ∃ (x32 : List Int) (a31 : Option Addr) (k31 : Nat) (cs31 : List Value) (x33 : Int), L' = [(5, .v (.pointer (some ⟨b6, 0, none⟩))), (7, .v (.pointer (some ⟨b10, 0, none⟩))), (9, .v (.slice a31 ((x32).length) (k31))), (32, .v (.int .i64 (x33)))] ∧ M' = [.blk [.v (.slice a2 ((x1.Buckets).length) (k2)), .v (.int .u64 (x1.Root))] 50, .blk [.v (.slice a4 ((x3.Buckets).length) (k4)), .v (.int .u64 (x3.Root))] 50, .row (.slice ((some ⟨b6, 0, none⟩)) (64) (64)) (((x5.1).map (Value.int .u64))) 81 1, .row (.slice ((some ⟨b10, 0, none⟩)) (64) (64)) (((x9.1).map (Value.int .u64))) 81 1, .row (.slice a31 ((x32).length) (k31)) cs31 3 1] ∧ RowRep (cInt .u64) V' x5.1 (((x5.1).map (Value.int .u64))) ∧ RowRep (cInt .u64) V' x9.1 (((x9.1).map (Value.int .u64))) ∧ RowRep (cInt .i64) V' x32 cs31 ∧ SlAt (cInt .u64) V' a2 k2 x1.Buckets ∧ SlAt (cInt .u64) V' a4 k4 x3.Buckets ∧ F_digest_Diff_L1 x5 x9 J20 n34 x32 x33 = some r) ⟨(((64 : Int)).toNat + 1), [(5, .v (.pointer (some ⟨b6, 0, none⟩))), (7, .v (.pointer (some ⟨b10, 0, none⟩))), (9, .v (.slice none ((([] : List Int)).length) (0))), (32, .v (.int .i64 ((0 : Int))))], ⟨rfl, rfl, rfl, rfl, trivial⟩, ([] : List Int), none, 0, [], (0 : Int), rfl, rfl, h8, h12, h15, h2, h4, hF⟩ ?_
      rintro n34 L' V35 M' ⟨x32, a31, k31, cs31, x33, rfl, rfl, h29, h30, h31, h36, h37, hF⟩
      rcases n34 with _ | n34
      · exact absurd hF (by simp [F_digest_Diff_L1])
      rw [F_digest_Diff_L1] at hF
      refine Exec.run tyOk 400 rfl ?_
      rcases cond_some hF with ⟨hb, hF⟩ | ⟨hb, hF⟩
      · skip
        refine Exec.ifT rfl hb ?_
        refine Exec.run tyOk 400 rfl ?_
        refine Exec.draws tyOk [(0, true), (1, true), (2, true), (3, true), (4, true), (5, true), (6, true)] rfl (by kernel_rfl) ?_
        refine Exec.run tyOk 400 rfl ?_
        obtain ⟨q38, hF⟩ := req_some hF
        refine Exec.rowI 2 rfl (fun ra39 rb39 rc39 => ?_)
        obtain ⟨c40, hr40, hd40⟩ := h29.get q38
        obtain rfl := hr40
        have rl39 := RowRep.len h29
        refine Exec.fiaA tyOk rfl rfl rfl (ixA q38 rl39 ra39 (cInt .u64).pos) ?_
        refine Exec.run tyOk 400 rfl ?_
        refine Exec.fldR tyOk 2 (x := .int .u64 ((atI x5.1 x33))) rfl rfl rfl rfl ⟨hd40, ⟨_, _, rfl⟩⟩ rfl rfl ?_
        refine Exec.run tyOk 400 rfl ?_
        obtain ⟨q41, hF⟩ := req_some hF
        refine Exec.rowI 3 rfl (fun ra42 rb42 rc42 => ?_)
        obtain ⟨c43, hr43, hd43⟩ := h30.get q41
        obtain rfl := hr43
        have rl42 := RowRep.len h30
        refine Exec.fiaA tyOk rfl rfl rfl (ixA q41 rl42 ra42 (cInt .u64).pos) ?_
        refine Exec.run tyOk 400 rfl ?_
        refine Exec.fldR tyOk 3 (x := .int .u64 ((atI x9.1 x33))) rfl rfl rfl rfl ⟨hd43, ⟨_, _, rfl⟩⟩ rfl rfl ?_
        refine Exec.run tyOk 400 rfl ?_
        obtain ⟨J48, hJ48, hF⟩ := jn_some hF
        refine Exec.seam (fun L' V' M' => ∃ (x47 : List Int) (a46 : Option Addr) (k46 : Nat) (cs46 : List Value), L' = [(5, .v (.pointer (some ⟨b6, 0, none⟩))), (7, .v (.pointer (some ⟨b10, 0, none⟩))), (9, .v (.slice a46 ((x47).length) (k46))), (32, .v (.int .i64 (x33)))] ∧ M' = [.blk [.v (.slice a2 ((x1.Buckets).length) (k2)), .v (.int .u64 (x1.Root))] 50, .blk [.v (.slice a4 ((x3.Buckets).length) (k4)), .v (.int .u64 (x3.Root))] 50, .row (.slice ((some ⟨b6, 0, none⟩)) (64) (64)) (((x5.1).map (Value.int .u64))) 81 1, .row (.slice ((some ⟨b10, 0, none⟩)) (64) (64)) (((x9.1).map (Value.int .u64))) 81 1, .row (.slice a46 ((x47).length) (k46)) cs46 3 1] ∧ RowRep (cInt .u64) V' x5.1 (((x5.1).map (Value.int .u64))) ∧ RowRep (cInt .u64) V' x9.1 (((x9.1).map (Value.int .u64))) ∧ RowRep (cInt .i64) V' x47 cs46 ∧ SlAt (cInt .u64) V' a2 k2 x1.Buckets ∧ SlAt (cInt .u64) V' a4 k4 x3.Buckets ∧ J48 x47 = some r) rfl ?_ ?_
        · rintro L' V49 M' ⟨x47, a46, k46, cs46, rfl, rfl, h44, h45, h46, h50, h51, hF⟩
          subst hJ48
          refine Exec.run tyOk 400 rfl ?_
          exact Exec.round [(5, .v (.pointer (some ⟨b6, 0, none⟩))), (7, .v (.pointer (some ⟨b10, 0, none⟩))), (9, .v (.slice a46 ((x47).length) (k46))), (32, .v (.int .i64 ((IntKind.i64.wrap (x33 + (1 : Int))))))] ⟨rfl, rfl, rfl, rfl, trivial⟩ ⟨n34, Nat.lt_succ_self _, x47, a46, k46, cs46, (IntKind.i64.wrap (x33 + (1 : Int))), rfl, rfl, h44, h45, h46, h50, h51, hF⟩
        · skip
          refine Exec.run tyOk 400 rfl ?_
          rcases cond_some hF with ⟨hb, hF⟩ | ⟨hb, hF⟩
          · skip
            refine Exec.ifT rfl hb ?_
            refine Exec.run tyOk 400 rfl ?_
            refine Exec.bsl tyOk rfl rfl ?_
            refine Exec.run tyOk 400 rfl ?_
            obtain ⟨q53, hF⟩ := req_some hF
            refine Exec.app tyOk 4 5 (nm := ((x32 ++ [x33])).length) rfl rfl rfl rfl rfl rfl rfl rfl rfl (by simp) (fun _ _ => rfl) rfl q53 (fun a52 k52 => ?_)
            have h52 : RowRep (cInt .i64) V35 (x32 ++ [x33]) (cs31 ++ [.int .i64 (x33)]) := RowRep.app h31 ⟨_, _, rfl, rfl, rfl⟩
            refine Exec.run tyOk 400 rfl ?_
            refine Exec.cut 5 [(5, .v (.pointer (some ⟨b6, 0, none⟩))), (7, .v (.pointer (some ⟨b10, 0, none⟩))), (9, .v (.slice a52 (((x32 ++ [x33])).length) (k52))), (32, .v (.int .i64 (x33)))] (M' := [.blk [.v (.slice a2 ((x1.Buckets).length) (k2)), .v (.int .u64 (x1.Root))] 50, .blk [.v (.slice a4 ((x3.Buckets).length) (k4)), .v (.int .u64 (x3.Root))] 50, .row (.slice ((some ⟨b6, 0, none⟩)) (64) (64)) (((x5.1).map (Value.int .u64))) 81 1, .row (.slice ((some ⟨b10, 0, none⟩)) (64) (64)) (((x9.1).map (Value.int .u64))) 81 1, .row (.slice a52 (((x32 ++ [x33])).length) (k52)) ((cs31 ++ [.int .i64 (x33)])) 3 1]) rfl ⟨rfl, rfl, rfl, rfl, trivial⟩ rfl rfl rfl ?_
            exact Exec.round [(5, .v (.pointer (some ⟨b6, 0, none⟩))), (7, .v (.pointer (some ⟨b10, 0, none⟩))), (9, .v (.slice a52 (((x32 ++ [x33])).length) (k52))), (32, .v (.int .i64 (x33)))] ⟨rfl, rfl, rfl, rfl, trivial⟩ ⟨(x32 ++ [x33]), a52, k52, (cs31 ++ [.int .i64 (x33)]), rfl, rfl, h29, h30, h52, h36, h37, hF⟩
          · skip
            refine Exec.ifF rfl hb ?_
            refine Exec.run tyOk 400 rfl ?_
            exact Exec.round [(5, .v (.pointer (some ⟨b6, 0, none⟩))), (7, .v (.pointer (some ⟨b10, 0, none⟩))), (9, .v (.slice a31 ((x32).length) (k31))), (32, .v (.int .i64 (x33)))] ⟨rfl, rfl, rfl, rfl, trivial⟩ ⟨x32, a31, k31, cs31, rfl, rfl, h29, h30, h31, h36, h37, hF⟩
      · skip
        refine Exec.ifF rfl hb ?_
        refine Exec.run tyOk 400 rfl ?_
        exact Exec.round [(9, .v (.slice a31 ((x32).length) (k31)))] ⟨rfl, trivial⟩ ⟨x32, a31, k31, cs31, rfl, rfl, h29, h30, h31, h36, h37, hF⟩

def F_verify_Stores_L1 (x10 : List Int) (x1 : TStore) (x3 : TStore) (J16 : Option (Int × Int)) : Nat → Int → Option (Int × Int)
  | 0, _ => none
  | n19 + 1, x18 => (cond (decide (x18 < (((x10).length : Nat) : Int))) (req (0 ≤ x18 ∧ x18 < ((x10).length : Int)) (bnd (F_mvstore_At x1 ((atI x10 x18))) fun x26 => (bnd (F_mvstore_At x3 ((atI x10 x18))) fun x33 => (bnd (F_state_Same x26.1 x33.1) fun x41 => (cond (!x41) (some ((atI x10 x18), (0 : Int))) (F_verify_Stores_L1 x10 x1 x3 J16 n19 ((IntKind.i64.wrap (x18 + (1 : Int)))))))))) J16)

def F_verify_Stores (x1 : TStore) (x3 : TStore) : Option (Int × Int) :=
  (bnd (F_mvstore_Valid x1) fun x5 => (bnd (gcall (((!x5)) == false) (F_mvstore_Valid x3)) fun x6 => (cond ((!x5) || (!x6)) (some ((0 : Int), (1 : Int))) (cond (decide ((min x1.Last x3.Last) < (max x1.Floor x3.Floor))) (some ((0 : Int), (15 : Int))) (bnd (F_verify_turns ((max x1.Floor x3.Floor)) ((min x1.Last x3.Last)) (([x1, x3] : List TStore))) fun x10 => (jn ((some ((0 : Int), (9 : Int)))) (fun J16 => (F_verify_Stores_L1 x10 x1 x3 J16 (((((x10).length : Nat) : Int)).toNat + 1) ((0 : Int))))))))))

set_option maxRecDepth 100000 in
theorem W_verify_Stores {V : View} (x1 : TStore) (x3 : TStore) {a2 : Option Addr} {k2 : Nat} {a4 : Option Addr} {k4 : Nat} (h2 : SlAt cTRow V a2 k2 x1.Rows) (h4 : SlAt cTRow V a4 k4 x3.Rows) {r : Int × Int} (hF : F_verify_Stores x1 x3 = some r) :
    Spec Tryz.prog 22 [.agg ⟨[.int .i64 (x1.Floor), .int .i64 (x1.Last), .slice a2 ((x1.Rows).length) (k2)]⟩, .agg ⟨[.int .i64 (x3.Floor), .int .i64 (x3.Last), .slice a4 ((x3.Rows).length) (k4)]⟩] V (fun _ v => v = .tuple ⟨[.int .i64 (r.1), .int .i64 (r.2)]⟩) := by
  unfold F_verify_Stores at hF
  refine Spec.enter (T := tyT) Tryz.func22 rfl (by kernel_rfl) rfl rfl rfl ?_
  refine Exec.run tyOk 400 rfl ?_
  obtain ⟨x5, hx5, hF⟩ := bnd_some hF
  refine Exec.callS (.bool (x5)) rfl rfl (W_mvstore_Valid x1 h2 hx5) ?_
  refine Exec.run tyOk 400 rfl ?_
  obtain ⟨x6, hx6, hF⟩ := bnd_some hF
  refine Exec.callS (.bool (x6)) rfl rfl (fun gg0 => W_mvstore_Valid x3 h4 (gcall_some hx6 (gd1_of gg0))) ?_
  refine Exec.run tyOk 400 rfl ?_
  rcases cond_some hF with ⟨hb, hF⟩ | ⟨hb, hF⟩
  · skip
    refine Exec.ifT rfl hb ?_
    refine Exec.run tyOk 400 rfl ?_
    obtain rfl := some_inj hF
    exact Exec.ret tyOk rfl rfl rfl
  · skip
    refine Exec.ifF rfl hb ?_
    refine Exec.run tyOk 400 rfl ?_
    rcases cond_some hF with ⟨hb, hF⟩ | ⟨hb, hF⟩
    · skip
      refine Exec.ifT rfl hb ?_
      refine Exec.run tyOk 400 rfl ?_
      obtain rfl := some_inj hF
      exact Exec.ret tyOk rfl rfl rfl
    · skip
      refine Exec.ifF rfl hb ?_
      refine Exec.run tyOk 400 rfl ?_
      refine Exec.bsV tyOk rfl rfl rfl rfl rfl (fun V7 a7 hv7 hd7 => ?_)
      have h8 := SlAt.mono h2 hv7
      have h9 := SlAt.mono h4 hv7
      have h7 : SlAt cTStore V7 (some a7) 2 ([x1, x3] : List TStore) := RowRep.slat (c := cTStore) (V := V7) (cs := [.int .i64 (x1.Floor), .int .i64 (x1.Last), .slice a2 ((x1.Rows).length) (k2), .int .i64 (x3.Floor), .int .i64 (x3.Last), .slice a4 ((x3.Rows).length) (k4)]) ⟨_, _, rfl, ⟨_, _, rfl, (SlAt.mono h2 hv7)⟩, ⟨_, _, rfl, ⟨_, _, rfl, (SlAt.mono h4 hv7)⟩, rfl⟩⟩ (VLe.refl _) (fun _ => hd7) (by simp)
      refine Exec.run tyOk 400 rfl ?_
      obtain ⟨x10, hx10, hF⟩ := bnd_some hF
      refine Exec.call rfl rfl (W_verify_turns ((max x1.Floor x3.Floor)) ((min x1.Last x3.Last)) (([x1, x3] : List TStore)) h7 hx10) ?_
      rintro V12 _ hv12 ⟨a11, k11, rfl, h11⟩
      have h13 := SlAt.mono h8 hv12
      have h14 := SlAt.mono h9 hv12
      have h15 := SlAt.mono h7 hv12
      refine Exec.run tyOk 3 rfl ?_
      obtain ⟨J16, hJ16, hF⟩ := jn_some hF
      refine Exec.seam (fun L' V' M' => L' = [] ∧ M' = [] ∧ J16 = some r) rfl ?_ ?_
      · rintro L' V17 M' ⟨rfl, rfl, hF⟩
        subst hJ16
        refine Exec.run tyOk 400 rfl ?_
        obtain rfl := some_inj hF
        exact Exec.ret tyOk rfl rfl rfl
      · skip
        refine Exec.run tyOk 400 rfl ?_
        refine Exec.cut 2 [(2, .ptr 0 0), (3, .ptr 1 0), (40, .v (.slice a11 ((x10).length) (k11))), (41, .v (.int .i64 ((((x10).length : Nat) : Int)))), (42, .v (.int .i64 ((0 : Int))))] (M' := [.blk [.v (.int .i64 (x1.Floor)), .v (.int .i64 (x1.Last)), .v (.slice a2 ((x1.Rows).length) (k2))] 40, .blk [.v (.int .i64 (x3.Floor)), .v (.int .i64 (x3.Last)), .v (.slice a4 ((x3.Rows).length) (k4))] 40]) rfl ⟨rfl, rfl, rfl, rfl, rfl, trivial⟩ rfl rfl rfl ?_
        refine Exec.loop (fun n19 L' V' M' => ∃ (x18 : Int), L' = [(2, .ptr 0 0), (3, .ptr 1 0), (40, .v (.slice a11 ((x10).length) (k11))), (41, .v (.int .i64 ((((x10).length : Nat) : Int)))), (42, .v (.int .i64 (x18)))] ∧ M' = [.blk [.v (.int .i64 (x1.Floor)), .v (.int .i64 (x1.Last)), .v (.slice a2 ((x1.Rows).length) (k2))] 40, .blk [.v (.int .i64 (x3.Floor)), .v (.int .i64 (x3.Last)), .v (.slice a4 ((x3.Rows).length) (k4))] 40] ∧ SlAt (cInt .i64) V' a11 k11 x10 ∧ SlAt cTRow V' a2 k2 x1.Rows ∧ SlAt cTRow V' a4 k4 x3.Rows ∧ F_verify_Stores_L1 x10 x1 x3 J16 n19 x18 = some r) ⟨(((((x10).length : Nat) : Int)).toNat + 1), [(2, .ptr 0 0), (3, .ptr 1 0), (40, .v (.slice a11 ((x10).length) (k11))), (41, .v (.int .i64 ((((x10).length : Nat) : Int)))), (42, .v (.int .i64 ((0 : Int))))], ⟨rfl, rfl, rfl, rfl, rfl, trivial⟩, (0 : Int), rfl, rfl, h11, h13, h14, hF⟩ ?_
        rintro n19 L' V20 M' ⟨x18, rfl, rfl, h21, h22, h23, hF⟩
        rcases n19 with _ | n19
        · exact absurd hF (by simp [F_verify_Stores_L1])
        rw [F_verify_Stores_L1] at hF
        refine Exec.run tyOk 400 rfl ?_
        rcases cond_some hF with ⟨hb, hF⟩ | ⟨hb, hF⟩
        · skip
          refine Exec.ifT rfl hb ?_
          refine Exec.run tyOk 400 rfl ?_
          obtain ⟨q24, hF⟩ := req_some hF
          obtain ⟨c25, hr25, hd25⟩ := SlAt.get h21 q24
          obtain rfl := hr25
          refine Exec.ia tyOk rfl rfl ⟨q24.1, q24.2, hd25.some⟩ ?_
          refine Exec.run tyOk 400 rfl ?_
          refine Exec.ld tyOk (x := .int .i64 ((atI x10 x18))) rfl rfl hd25 rfl rfl ?_
          refine Exec.run tyOk 400 rfl ?_
          obtain ⟨x26, hx26, hF⟩ := bnd_some hF
          refine Exec.call rfl rfl (W_mvstore_At x1 ((atI x10 x18)) h22 hx26) ?_
          rintro V28 _ hv28 ⟨a27, k27, rfl, h27⟩
          have h29 := SlAt.mono h21 hv28
          have h31 := SlAt.mono h22 hv28
          have h32 := SlAt.mono h23 hv28
          refine Exec.run tyOk 400 rfl ?_
          obtain ⟨x33, hx33, hF⟩ := bnd_some hF
          refine Exec.call rfl rfl (W_mvstore_At x3 ((atI x10 x18)) h32 hx33) ?_
          rintro V35 _ hv35 ⟨a34, k34, rfl, h34⟩
          have h36 := SlAt.mono h27 hv35
          have h37 := SlAt.mono h29 hv35
          have h39 := SlAt.mono h31 hv35
          have h40 := SlAt.mono h32 hv35
          refine Exec.run tyOk 400 rfl ?_
          obtain ⟨x41, hx41, hF⟩ := bnd_some hF
          refine Exec.callS (.bool (x41)) rfl rfl (W_state_Same x26.1 x33.1 h36 h34 hx41) ?_
          refine Exec.run tyOk 400 rfl ?_
          rcases cond_some hF with ⟨hb, hF⟩ | ⟨hb, hF⟩
          · skip
            refine Exec.ifT rfl hb ?_
            refine Exec.run tyOk 400 rfl ?_
            obtain rfl := some_inj hF
            exact Exec.ret tyOk rfl rfl rfl
          · skip
            refine Exec.ifF rfl hb ?_
            refine Exec.run tyOk 400 rfl ?_
            exact Exec.round [(2, .ptr 0 0), (3, .ptr 1 0), (40, .v (.slice a11 ((x10).length) (k11))), (41, .v (.int .i64 ((((x10).length : Nat) : Int)))), (42, .v (.int .i64 ((IntKind.i64.wrap (x18 + (1 : Int))))))] ⟨rfl, rfl, rfl, rfl, rfl, trivial⟩ ⟨n19, Nat.lt_succ_self _, (IntKind.i64.wrap (x18 + (1 : Int))), rfl, rfl, h37, h39, h40, hF⟩
        · skip
          refine Exec.ifF rfl hb ?_
          refine Exec.run tyOk 400 rfl ?_
          refine Exec.cut 0 [] (M' := []) rfl trivial rfl rfl rfl ?_
          exact Exec.round [] trivial ⟨rfl, rfl, hF⟩

def F_clockworkref54_Stores_L1 (x1 : TStore) (x3 : TStore) (J7 : Option (Int × Int)) : Nat → Int → Option (Int × Int)
  | 0, _ => none
  | n10 + 1, x9 => (cond (decide (x9 ≤ (min x1.Last x3.Last))) (bnd (F_clockworkref22_At x1 x9) fun x14 => (bnd (F_clockworkref22_At x3 x9) fun x19 => (bnd (F_clockworkref06_Same x14.1 x19.1) fun x25 => (cond (!x25) (some (x9, (0 : Int))) (bnd (F_clockworkref54_next x1 x3 x9) fun x26 => (cond (x26 == x9) (some ((0 : Int), (9 : Int))) (F_clockworkref54_Stores_L1 x1 x3 J7 n10 x26))))))) J7)

def F_clockworkref54_Stores (x1 : TStore) (x3 : TStore) : Option (Int × Int) :=
  (bnd (F_clockworkref22_Valid x1) fun x5 => (bnd (gcall (((!x5)) == false) (F_clockworkref22_Valid x3)) fun x6 => (cond ((!x5) || (!x6)) (some ((0 : Int), (1 : Int))) (cond (decide ((min x1.Last x3.Last) < (max x1.Floor x3.Floor))) (some ((0 : Int), (15 : Int))) (jn ((some ((0 : Int), (9 : Int)))) (fun J7 => (F_clockworkref54_Stores_L1 x1 x3 J7 (((min x1.Last x3.Last)).toNat + 2) ((max x1.Floor x3.Floor)))))))))

set_option maxRecDepth 100000 in
theorem W_clockworkref54_Stores {V : View} (x1 : TStore) (x3 : TStore) {a2 : Option Addr} {k2 : Nat} {a4 : Option Addr} {k4 : Nat} (h2 : SlAt cTRow V a2 k2 x1.Rows) (h4 : SlAt cTRow V a4 k4 x3.Rows) {r : Int × Int} (hF : F_clockworkref54_Stores x1 x3 = some r) :
    Spec Tryz.prog 23 [.agg ⟨[.int .i64 (x1.Floor), .int .i64 (x1.Last), .slice a2 ((x1.Rows).length) (k2)]⟩, .agg ⟨[.int .i64 (x3.Floor), .int .i64 (x3.Last), .slice a4 ((x3.Rows).length) (k4)]⟩] V (fun _ v => v = .tuple ⟨[.int .i64 (r.1), .int .i64 (r.2)]⟩) := by
  unfold F_clockworkref54_Stores at hF
  refine Spec.enter (T := tyT) Tryz.func23 rfl (by kernel_rfl) rfl rfl rfl ?_
  refine Exec.run tyOk 400 rfl ?_
  obtain ⟨x5, hx5, hF⟩ := bnd_some hF
  refine Exec.callS (.bool (x5)) rfl rfl (W_clockworkref22_Valid x1 h2 hx5) ?_
  refine Exec.run tyOk 400 rfl ?_
  obtain ⟨x6, hx6, hF⟩ := bnd_some hF
  refine Exec.callS (.bool (x6)) rfl rfl (fun gg0 => W_clockworkref22_Valid x3 h4 (gcall_some hx6 (gd1_of gg0))) ?_
  refine Exec.run tyOk 400 rfl ?_
  rcases cond_some hF with ⟨hb, hF⟩ | ⟨hb, hF⟩
  · skip
    refine Exec.ifT rfl hb ?_
    refine Exec.run tyOk 400 rfl ?_
    obtain rfl := some_inj hF
    exact Exec.ret tyOk rfl rfl rfl
  · skip
    refine Exec.ifF rfl hb ?_
    refine Exec.run tyOk 400 rfl ?_
    refine Exec.draws tyOk [(0, true), (1, true), (2, true), (3, true), (4, true), (5, true), (6, true), (7, true), (8, true), (9, true), (10, true), (11, true)] rfl (by kernel_rfl) ?_
    refine Exec.run tyOk 400 rfl ?_
    rcases cond_some hF with ⟨hb, hF⟩ | ⟨hb, hF⟩
    · skip
      refine Exec.ifT rfl hb ?_
      refine Exec.run tyOk 400 rfl ?_
      obtain rfl := some_inj hF
      exact Exec.ret tyOk rfl rfl rfl
    · skip
      refine Exec.ifF rfl hb ?_
      refine Exec.run tyOk 2 rfl ?_
      obtain ⟨J7, hJ7, hF⟩ := jn_some hF
      refine Exec.seam (fun L' V' M' => L' = [] ∧ M' = [] ∧ J7 = some r) rfl ?_ ?_
      · rintro L' V8 M' ⟨rfl, rfl, hF⟩
        subst hJ7
        refine Exec.run tyOk 400 rfl ?_
        obtain rfl := some_inj hF
        exact Exec.ret tyOk rfl rfl rfl
      · skip
        refine Exec.run tyOk 400 rfl ?_
        refine Exec.loop (fun n10 L' V' M' => ∃ (x9 : Int), L' = [(2, .ptr 0 0), (3, .ptr 1 0), (6, .v (.int .i64 (x9))), (7, .v (.int .i64 ((min x1.Last x3.Last))))] ∧ M' = [.blk [.v (.int .i64 (x1.Floor)), .v (.int .i64 (x1.Last)), .v (.slice a2 ((x1.Rows).length) (k2))] 40, .blk [.v (.int .i64 (x3.Floor)), .v (.int .i64 (x3.Last)), .v (.slice a4 ((x3.Rows).length) (k4))] 40] ∧ SlAt cTRow V' a2 k2 x1.Rows ∧ SlAt cTRow V' a4 k4 x3.Rows ∧ F_clockworkref54_Stores_L1 x1 x3 J7 n10 x9 = some r) ⟨(((min x1.Last x3.Last)).toNat + 2), [(2, .ptr 0 0), (3, .ptr 1 0), (6, .v (.int .i64 ((max x1.Floor x3.Floor)))), (7, .v (.int .i64 ((min x1.Last x3.Last))))], ⟨rfl, rfl, rfl, rfl, trivial⟩, (max x1.Floor x3.Floor), rfl, rfl, h2, h4, hF⟩ ?_
        rintro n10 L' V11 M' ⟨x9, rfl, rfl, h12, h13, hF⟩
        rcases n10 with _ | n10
        · exact absurd hF (by simp [F_clockworkref54_Stores_L1])
        rw [F_clockworkref54_Stores_L1] at hF
        refine Exec.run tyOk 400 rfl ?_
        rcases cond_some hF with ⟨hb, hF⟩ | ⟨hb, hF⟩
        · skip
          refine Exec.ifT rfl hb ?_
          refine Exec.run tyOk 400 rfl ?_
          obtain ⟨x14, hx14, hF⟩ := bnd_some hF
          refine Exec.call rfl rfl (W_clockworkref22_At x1 x9 h12 hx14) ?_
          rintro V16 _ hv16 ⟨a15, k15, rfl, h15⟩
          have h17 := SlAt.mono h12 hv16
          have h18 := SlAt.mono h13 hv16
          refine Exec.run tyOk 400 rfl ?_
          obtain ⟨x19, hx19, hF⟩ := bnd_some hF
          refine Exec.call rfl rfl (W_clockworkref22_At x3 x9 h18 hx19) ?_
          rintro V21 _ hv21 ⟨a20, k20, rfl, h20⟩
          have h22 := SlAt.mono h15 hv21
          have h23 := SlAt.mono h17 hv21
          have h24 := SlAt.mono h18 hv21
          refine Exec.run tyOk 400 rfl ?_
          obtain ⟨x25, hx25, hF⟩ := bnd_some hF
          refine Exec.callS (.bool (x25)) rfl rfl (W_clockworkref06_Same x14.1 x19.1 h22 h20 hx25) ?_
          refine Exec.run tyOk 400 rfl ?_
          rcases cond_some hF with ⟨hb, hF⟩ | ⟨hb, hF⟩
          · skip
            refine Exec.ifT rfl hb ?_
            refine Exec.run tyOk 400 rfl ?_
            obtain rfl := some_inj hF
            exact Exec.ret tyOk rfl rfl rfl
          · skip
            refine Exec.ifF rfl hb ?_
            refine Exec.run tyOk 400 rfl ?_
            obtain ⟨x26, hx26, hF⟩ := bnd_some hF
            refine Exec.callS (.int .i64 (x26)) rfl rfl (W_clockworkref54_next x1 x3 x9 h23 h24 hx26) ?_
            refine Exec.run tyOk 400 rfl ?_
            rcases cond_some hF with ⟨hb, hF⟩ | ⟨hb, hF⟩
            · skip
              refine Exec.ifT rfl hb ?_
              refine Exec.run tyOk 400 rfl ?_
              obtain rfl := some_inj hF
              exact Exec.ret tyOk rfl rfl rfl
            · skip
              refine Exec.ifF rfl hb ?_
              refine Exec.run tyOk 400 rfl ?_
              exact Exec.round [(2, .ptr 0 0), (3, .ptr 1 0), (6, .v (.int .i64 (x26))), (7, .v (.int .i64 ((min x1.Last x3.Last))))] ⟨rfl, rfl, rfl, rfl, trivial⟩ ⟨n10, Nat.lt_succ_self _, x26, rfl, rfl, h23, h24, hF⟩
        · skip
          refine Exec.ifF rfl hb ?_
          refine Exec.run tyOk 400 rfl ?_
          refine Exec.cut 0 [] (M' := []) rfl trivial rfl rfl rfl ?_
          exact Exec.round [] trivial ⟨rfl, rfl, hF⟩

def F_digest_Tree_L1 (x1 : List TPair) (J6 : (List Int) → Option TTree) : Nat → (List Int) → Int → Option TTree
  | 0, _, _ => none
  | n16 + 1, x14, x15 => (cond (decide (x15 < (((x1).length : Nat) : Int))) (req (0 ≤ x15 ∧ x15 < ((x1).length : Int)) (bnd (F_digest_Bucket ((atI x1 x15).Key)) fun x21 => (req (0 ≤ x21 ∧ x21 < ((x14).length : Int)) (bnd (F_digest_Pair ((atI x1 x15))) fun x25 => (req (0 ≤ x21 ∧ x21 < ((x14).length : Int)) (F_digest_Tree_L1 x1 J6 n16 ((x14.set (x21).toNat ((bits .xor .u64 (atI x14 x21) x25)))) ((IntKind.i64.wrap (x15 + (1 : Int)))))))))) (J6 x14))

def F_digest_Tree (x1 : List TPair) : Option TTree :=
  (jn (fun (x5 : List Int) => (bnd (F_digest_sealed x5) fun x9 => (some x9))) (fun J6 => (F_digest_Tree_L1 x1 J6 (((((x1).length : Nat) : Int)).toNat + 1) ((List.replicate 64 (0 : Int))) ((0 : Int)))))

set_option maxRecDepth 100000 in
theorem W_digest_Tree {V : View} (x1 : List TPair) {a2 : Option Addr} {k2 : Nat} (h2 : SlAt cTPair V a2 k2 x1) {r : TTree} (hF : F_digest_Tree x1 = some r) :
    Spec Tryz.prog 26 [.slice a2 ((x1).length) (k2)] V (fun V' v => ∃ (a30 : Option Addr) (k30 : Nat), v = .agg ⟨[.slice a30 ((r.Buckets).length) (k30), .int .u64 (r.Root)]⟩ ∧ SlAt (cInt .u64) V' a30 k30 r.Buckets) := by
  unfold F_digest_Tree at hF
  refine Spec.enter (T := tyT) Tryz.func26 rfl (by kernel_rfl) rfl rfl rfl ?_
  refine Exec.run tyOk 7 rfl ?_
  refine Exec.fixR 1 (n := 64) (sz := 1) (cs := (List.replicate 64 (.int .u64 0))) rfl rfl rfl rfl rfl (fun _ => rfl) (fun _ => rfl) (fun _ => rfl) (fun b3 => ?_)
  have h3 : RowRep (cInt .u64) V (List.replicate 64 (0 : Int)) (List.replicate 64 (.int .u64 0)) := by have := RowRep.ofInts (k := .u64) (V := V) (List.replicate 64 (0 : Int)); rwa [List.map_replicate] at this
  refine Exec.run tyOk 8 rfl ?_
  obtain ⟨J6, hJ6, hF⟩ := jn_some hF
  refine Exec.seam (fun L' V' M' => ∃ (x5 : List Int) (cs4 : List Value), L' = [(2, .ptr 0 0), (3, .v (.pointer (some ⟨b3, 0, none⟩)))] ∧ M' = [.blk [.v (.slice none (0) (0)), .v (.int .u64 (0))] 50, .row (.slice ((some ⟨b3, 0, none⟩)) (64) (64)) cs4 81 1] ∧ RowRep (cInt .u64) V' x5 cs4 ∧ J6 x5 = some r) rfl ?_ ?_
  · rintro L' V7 M' ⟨x5, cs4, rfl, rfl, h4, hF⟩
    subst hJ6
    refine Exec.run tyOk 400 rfl ?_
    refine Exec.ldA tyOk 1 (kd := .u64) rfl rfl rfl h4 rfl rfl (fun hl8 => ?_)
    refine Exec.run tyOk 400 rfl ?_
    obtain ⟨x9, hx9, hF⟩ := bnd_some hF
    refine Exec.call rfl rfl (W_digest_sealed x5  hx9) ?_
    rintro V11 _ hv11 ⟨a10, k10, rfl, h10⟩
    have h12 := RowRep.mono hv11 h4
    refine Exec.run tyOk 400 rfl ?_
    obtain rfl := some_inj hF
    exact Exec.ret tyOk rfl rfl ⟨_, _, rfl, h10⟩
  · skip
    refine Exec.run tyOk 400 rfl ?_
    refine Exec.loop (fun n16 L' V' M' => ∃ (x14 : List Int) (cs13 : List Value) (x15 : Int), L' = [(2, .ptr 0 0), (3, .v (.pointer (some ⟨b3, 0, none⟩))), (6, .v (.slice a2 ((x1).length) (k2))), (7, .v (.int .i64 ((((x1).length : Nat) : Int)))), (8, .v (.int .i64 (x15)))] ∧ M' = [.blk [.v (.slice none (0) (0)), .v (.int .u64 (0))] 50, .row (.slice ((some ⟨b3, 0, none⟩)) (64) (64)) cs13 81 1] ∧ RowRep (cInt .u64) V' x14 cs13 ∧ SlAt cTPair V' a2 k2 x1 ∧ F_digest_Tree_L1 x1 J6 n16 x14 x15 = some r) ⟨(((((x1).length : Nat) : Int)).toNat + 1), [(2, .ptr 0 0), (3, .v (.pointer (some ⟨b3, 0, none⟩))), (6, .v (.slice a2 ((x1).length) (k2))), (7, .v (.int .i64 ((((x1).length : Nat) : Int)))), (8, .v (.int .i64 ((0 : Int))))], ⟨rfl, rfl, rfl, rfl, rfl, trivial⟩, (List.replicate 64 (0 : Int)), (List.replicate 64 (.int .u64 0)), (0 : Int), rfl, rfl, h3, h2, hF⟩ ?_
    rintro n16 L' V17 M' ⟨x14, cs13, x15, rfl, rfl, h13, h18, hF⟩
    rcases n16 with _ | n16
    · exact absurd hF (by simp [F_digest_Tree_L1])
    rw [F_digest_Tree_L1] at hF
    refine Exec.run tyOk 400 rfl ?_
    rcases cond_some hF with ⟨hb, hF⟩ | ⟨hb, hF⟩
    · skip
      refine Exec.ifT rfl hb ?_
      refine Exec.run tyOk 400 rfl ?_
      obtain ⟨q19, hF⟩ := req_some hF
      obtain ⟨c20, hr20, hd20⟩ := SlAt.get h18 q19
      obtain rfl := hr20
      refine Exec.ia tyOk rfl rfl ⟨q19.1, q19.2, hd20.some⟩ ?_
      refine Exec.run tyOk 400 rfl ?_
      refine Exec.ld tyOk (x := .agg ⟨[.string ⟨⟨(atI x1 x15).Key⟩⟩, .int .i64 ((atI x1 x15).Val.Kind), .int .i64 ((atI x1 x15).Val.N), .string ⟨⟨(atI x1 x15).Val.S⟩⟩]⟩) rfl rfl hd20 rfl rfl ?_
      refine Exec.run tyOk 400 rfl ?_
      refine Exec.draws tyOk [(0, true), (1, true), (5, true), (2, false), (3, true), (4, true), (6, false), (7, false), (8, false), (9, false)] rfl (by kernel_rfl) ?_
      refine Exec.run tyOk 400 rfl ?_
      obtain ⟨x21, hx21, hF⟩ := bnd_some hF
      refine Exec.callS (.int .i64 (x21)) rfl rfl (W_digest_Bucket ((atI x1 x15).Key)  hx21) ?_
      refine Exec.run tyOk 400 rfl ?_
      obtain ⟨q22, hF⟩ := req_some hF
      refine Exec.rowI 1 rfl (fun ra23 rb23 rc23 => ?_)
      obtain ⟨c24, hr24, hd24⟩ := h13.get q22
      obtain rfl := hr24
      have rl23 := RowRep.len h13
      refine Exec.fiaA tyOk rfl rfl rfl (ixA q22 rl23 ra23 (cInt .u64).pos) ?_
      refine Exec.run tyOk 400 rfl ?_
      refine Exec.fldR tyOk 1 (x := .int .u64 ((atI x14 x21))) rfl rfl rfl rfl ⟨hd24, ⟨_, _, rfl⟩⟩ rfl rfl ?_
      refine Exec.run tyOk 400 rfl ?_
      obtain ⟨x25, hx25, hF⟩ := bnd_some hF
      refine Exec.callS (.int .u64 (x25)) rfl rfl (W_digest_Pair ((atI x1 x15))  hx25) ?_
      refine Exec.run tyOk 400 rfl ?_
      obtain ⟨q26, hF⟩ := req_some hF
      refine Exec.rowI 1 rfl (fun ra27 rb27 rc27 => ?_)
      obtain ⟨c28, hr28, hd28⟩ := h13.get q26
      obtain rfl := hr28
      have rl27 := RowRep.len h13
      refine Exec.iaA tyOk rfl rfl (ixA q26 rl27 ra27 (cInt .u64).pos) ?_
      refine Exec.run tyOk 400 rfl ?_
      have rl29 := RowRep.len h13
      have h29 : RowRep (cInt .u64) V17 (x14.set (x21).toNat ((bits .xor .u64 (atI x14 x21) x25))) (cs13.take ((x21).toNat * 1) ++ [.int .u64 ((bits .xor .u64 (atI x14 x21) x25))] ++ cs13.drop (((x21).toNat * 1) + 1)) := RowRep.set h13 q26 rfl
      refine Exec.stR tyOk 1 rfl rfl rfl rfl rfl ⟨_, _, rfl⟩ (stB q26 rl29) rfl rfl rfl ?_
      refine Exec.run tyOk 400 rfl ?_
      refine Exec.cut 2 [(2, .ptr 0 0), (3, .v (.pointer (some ⟨b3, 0, none⟩))), (6, .v (.slice a2 ((x1).length) (k2))), (7, .v (.int .i64 ((((x1).length : Nat) : Int)))), (8, .v (.int .i64 ((IntKind.i64.wrap (x15 + (1 : Int))))))] (M' := [.blk [.v (.slice none (0) (0)), .v (.int .u64 (0))] 50, .row (.slice ((some ⟨b3, 0, none⟩)) (64) (64)) ((cs13.take ((x21).toNat * 1) ++ [.int .u64 ((bits .xor .u64 (atI x14 x21) x25))] ++ cs13.drop (((x21).toNat * 1) + 1))) 81 1]) rfl ⟨rfl, rfl, rfl, rfl, rfl, trivial⟩ rfl rfl rfl ?_
      exact Exec.round [(2, .ptr 0 0), (3, .v (.pointer (some ⟨b3, 0, none⟩))), (6, .v (.slice a2 ((x1).length) (k2))), (7, .v (.int .i64 ((((x1).length : Nat) : Int)))), (8, .v (.int .i64 ((IntKind.i64.wrap (x15 + (1 : Int))))))] ⟨rfl, rfl, rfl, rfl, rfl, trivial⟩ ⟨n16, Nat.lt_succ_self _, (x14.set (x21).toNat ((bits .xor .u64 (atI x14 x21) x25))), (cs13.take ((x21).toNat * 1) ++ [.int .u64 ((bits .xor .u64 (atI x14 x21) x25))] ++ cs13.drop (((x21).toNat * 1) + 1)), (IntKind.i64.wrap (x15 + (1 : Int))), rfl, rfl, h29, h18, hF⟩
    · skip
      refine Exec.ifF rfl hb ?_
      refine Exec.run tyOk 400 rfl ?_
      exact Exec.round [(2, .ptr 0 0), (3, .v (.pointer (some ⟨b3, 0, none⟩)))] ⟨rfl, rfl, trivial⟩ ⟨x14, cs13, rfl, rfl, h13, hF⟩

def F_clockworklaw54_differ (x1 : TStore) (x3 : TStore) (x5 : Int) : Option Bool :=
  (bnd (F_clockworkref22_At x1 x5) fun x6 => (bnd (F_clockworkref22_At x3 x5) fun x11 => (bnd (gcall ((((x6.2 == (0 : Int)) && (x11.2 == (0 : Int)))) == true) (F_clockworkref06_Same x6.1 x11.1)) fun x17 => (some (((x6.2 == (0 : Int)) && (x11.2 == (0 : Int))) && (!x17))))))

set_option maxRecDepth 100000 in
theorem W_clockworklaw54_differ {V : View} (x1 : TStore) (x3 : TStore) (x5 : Int) {a2 : Option Addr} {k2 : Nat} {a4 : Option Addr} {k4 : Nat} (h2 : SlAt cTRow V a2 k2 x1.Rows) (h4 : SlAt cTRow V a4 k4 x3.Rows) {r : Bool} (hF : F_clockworklaw54_differ x1 x3 x5 = some r) :
    Spec Tryz.prog 29 [.agg ⟨[.int .i64 (x1.Floor), .int .i64 (x1.Last), .slice a2 ((x1.Rows).length) (k2)]⟩, .agg ⟨[.int .i64 (x3.Floor), .int .i64 (x3.Last), .slice a4 ((x3.Rows).length) (k4)]⟩, .int .i64 (x5)] V (fun _ v => v = .bool (r)) := by
  unfold F_clockworklaw54_differ at hF
  refine Spec.enter (T := tyT) Tryz.func29 rfl (by kernel_rfl) rfl rfl rfl ?_
  refine Exec.run tyOk 400 rfl ?_
  obtain ⟨x6, hx6, hF⟩ := bnd_some hF
  refine Exec.call rfl rfl (W_clockworkref22_At x1 x5 h2 hx6) ?_
  rintro V8 _ hv8 ⟨a7, k7, rfl, h7⟩
  have h9 := SlAt.mono h2 hv8
  have h10 := SlAt.mono h4 hv8
  refine Exec.run tyOk 400 rfl ?_
  obtain ⟨x11, hx11, hF⟩ := bnd_some hF
  refine Exec.call rfl rfl (W_clockworkref22_At x3 x5 h10 hx11) ?_
  rintro V13 _ hv13 ⟨a12, k12, rfl, h12⟩
  have h14 := SlAt.mono h9 hv13
  have h15 := SlAt.mono h10 hv13
  have h16 := SlAt.mono h7 hv13
  refine Exec.run tyOk 400 rfl ?_
  obtain ⟨x17, hx17, hF⟩ := bnd_some hF
  refine Exec.callS (.bool (x17)) rfl rfl (fun gg0 => W_clockworkref06_Same x6.1 x11.1 h16 h12 (gcall_some hx17 (gd1_of gg0))) ?_
  refine Exec.run tyOk 400 rfl ?_
  obtain rfl := some_inj hF
  exact Exec.ret tyOk rfl rfl rfl

def F_clockworklaw54_before_L2 (x10 : Int) (x1 : List TRow) (x7 : Int) (x3 : TStore) (x5 : TStore) (J16 : Option Bool) : Nat → Int → Option Bool
  | 0, _ => none
  | n22 + 1, x21 => (req (0 ≤ x10 ∧ x10 < ((x1).length : Int)) (cond (decide (x21 < ((((atI x1 x10).Vers).length : Nat) : Int))) (req (0 ≤ x10 ∧ x10 < ((x1).length : Int)) (req (0 ≤ x21 ∧ x21 < (((atI x1 x10).Vers).length : Int)) (bnd (gcall (((decide ((atI ((atI x1 x10).Vers) x21).At < x7))) == true) (F_clockworklaw54_differ x3 x5 ((atI ((atI x1 x10).Vers) x21).At))) fun x35 => (cond ((decide ((atI ((atI x1 x10).Vers) x21).At < x7)) && x35) (some true) (F_clockworklaw54_before_L2 x10 x1 x7 x3 x5 J16 n22 ((IntKind.i64.wrap (x21 + (1 : Int))))))))) J16))

def F_clockworklaw54_before_L1 (x1 : List TRow) (x7 : Int) (x3 : TStore) (x5 : TStore) (J8 : Option Bool) : Nat → Int → Option Bool
  | 0, _ => none
  | n11 + 1, x10 => (cond (decide (x10 < (((x1).length : Nat) : Int))) (jn ((F_clockworklaw54_before_L1 x1 x7 x3 x5 J8 n11 ((IntKind.i64.wrap (x10 + (1 : Int)))))) (fun J16 => (F_clockworklaw54_before_L2 x10 x1 x7 x3 x5 J16 (1000000 : Nat) ((0 : Int))))) J8)

def F_clockworklaw54_before (x1 : List TRow) (x3 : TStore) (x5 : TStore) (x7 : Int) : Option Bool :=
  (jn ((some false)) (fun J8 => (F_clockworklaw54_before_L1 x1 x7 x3 x5 J8 (((((x1).length : Nat) : Int)).toNat + 1) ((0 : Int)))))

set_option maxRecDepth 100000 in
theorem W_clockworklaw54_before {V : View} (x1 : List TRow) (x3 : TStore) (x5 : TStore) (x7 : Int) {a2 : Option Addr} {k2 : Nat} {a4 : Option Addr} {k4 : Nat} {a6 : Option Addr} {k6 : Nat} (h2 : SlAt cTRow V a2 k2 x1) (h4 : SlAt cTRow V a4 k4 x3.Rows) (h6 : SlAt cTRow V a6 k6 x5.Rows) {r : Bool} (hF : F_clockworklaw54_before x1 x3 x5 x7 = some r) :
    Spec Tryz.prog 30 [.slice a2 ((x1).length) (k2), .agg ⟨[.int .i64 (x3.Floor), .int .i64 (x3.Last), .slice a4 ((x3.Rows).length) (k4)]⟩, .agg ⟨[.int .i64 (x5.Floor), .int .i64 (x5.Last), .slice a6 ((x5.Rows).length) (k6)]⟩, .int .i64 (x7)] V (fun _ v => v = .bool (r)) := by
  unfold F_clockworklaw54_before at hF
  refine Spec.enter (T := tyT) Tryz.func30 rfl (by kernel_rfl) rfl rfl rfl ?_
  refine Exec.run tyOk 11 rfl ?_
  obtain ⟨J8, hJ8, hF⟩ := jn_some hF
  refine Exec.seam (fun L' V' M' => L' = [] ∧ M' = [] ∧ J8 = some r) rfl ?_ ?_
  · rintro L' V9 M' ⟨rfl, rfl, hF⟩
    subst hJ8
    refine Exec.run tyOk 400 rfl ?_
    obtain rfl := some_inj hF
    exact Exec.ret tyOk rfl rfl rfl
  · skip
    refine Exec.run tyOk 400 rfl ?_
    refine Exec.loop (fun n11 L' V' M' => ∃ (x10 : Int), L' = [(0, .v (.slice a2 ((x1).length) (k2))), (3, .v (.int .i64 (x7))), (5, .ptr 0 0), (6, .ptr 1 0), (9, .v (.int .i64 (x10)))] ∧ M' = [.blk [.v (.int .i64 (x3.Floor)), .v (.int .i64 (x3.Last)), .v (.slice a4 ((x3.Rows).length) (k4))] 40, .blk [.v (.int .i64 (x5.Floor)), .v (.int .i64 (x5.Last)), .v (.slice a6 ((x5.Rows).length) (k6))] 40] ∧ SlAt cTRow V' a2 k2 x1 ∧ SlAt cTRow V' a4 k4 x3.Rows ∧ SlAt cTRow V' a6 k6 x5.Rows ∧ F_clockworklaw54_before_L1 x1 x7 x3 x5 J8 n11 x10 = some r) ⟨(((((x1).length : Nat) : Int)).toNat + 1), [(0, .v (.slice a2 ((x1).length) (k2))), (3, .v (.int .i64 (x7))), (5, .ptr 0 0), (6, .ptr 1 0), (9, .v (.int .i64 ((0 : Int))))], ⟨rfl, rfl, rfl, rfl, rfl, trivial⟩, (0 : Int), rfl, rfl, h2, h4, h6, hF⟩ ?_
    rintro n11 L' V12 M' ⟨x10, rfl, rfl, h13, h14, h15, hF⟩
    rcases n11 with _ | n11
    · exact absurd hF (by simp [F_clockworklaw54_before_L1])
    rw [F_clockworklaw54_before_L1] at hF
    refine Exec.run tyOk 400 rfl ?_
    rcases cond_some hF with ⟨hb, hF⟩ | ⟨hb, hF⟩
    · skip
      refine Exec.ifT rfl hb ?_
      refine Exec.run tyOk 7 rfl ?_
      obtain ⟨J16, hJ16, hF⟩ := jn_some hF
      refine Exec.seam (fun L' V' M' => L' = [(0, .v (.slice a2 ((x1).length) (k2))), (3, .v (.int .i64 (x7))), (5, .ptr 0 0), (6, .ptr 1 0), (9, .v (.int .i64 (x10)))] ∧ M' = [.blk [.v (.int .i64 (x3.Floor)), .v (.int .i64 (x3.Last)), .v (.slice a4 ((x3.Rows).length) (k4))] 40, .blk [.v (.int .i64 (x5.Floor)), .v (.int .i64 (x5.Last)), .v (.slice a6 ((x5.Rows).length) (k6))] 40] ∧ SlAt cTRow V' a2 k2 x1 ∧ SlAt cTRow V' a4 k4 x3.Rows ∧ SlAt cTRow V' a6 k6 x5.Rows ∧ J16 = some r) rfl ?_ ?_
      · rintro L' V17 M' ⟨rfl, rfl, h18, h19, h20, hF⟩
        subst hJ16
        refine Exec.run tyOk 400 rfl ?_
        exact Exec.round [(0, .v (.slice a2 ((x1).length) (k2))), (3, .v (.int .i64 (x7))), (5, .ptr 0 0), (6, .ptr 1 0), (9, .v (.int .i64 ((IntKind.i64.wrap (x10 + (1 : Int))))))] ⟨rfl, rfl, rfl, rfl, rfl, trivial⟩ ⟨n11, Nat.lt_succ_self _, (IntKind.i64.wrap (x10 + (1 : Int))), rfl, rfl, h18, h19, h20, hF⟩
      · skip
        refine Exec.run tyOk 400 rfl ?_
        refine Exec.loop (fun n22 L' V' M' => ∃ (x21 : Int), L' = [(0, .v (.slice a2 ((x1).length) (k2))), (3, .v (.int .i64 (x7))), (5, .ptr 0 0), (6, .ptr 1 0), (9, .v (.int .i64 (x10))), (10, .v (.int .i64 (x21)))] ∧ M' = [.blk [.v (.int .i64 (x3.Floor)), .v (.int .i64 (x3.Last)), .v (.slice a4 ((x3.Rows).length) (k4))] 40, .blk [.v (.int .i64 (x5.Floor)), .v (.int .i64 (x5.Last)), .v (.slice a6 ((x5.Rows).length) (k6))] 40] ∧ SlAt cTRow V' a2 k2 x1 ∧ SlAt cTRow V' a4 k4 x3.Rows ∧ SlAt cTRow V' a6 k6 x5.Rows ∧ F_clockworklaw54_before_L2 x10 x1 x7 x3 x5 J16 n22 x21 = some r) ⟨(1000000 : Nat), [(0, .v (.slice a2 ((x1).length) (k2))), (3, .v (.int .i64 (x7))), (5, .ptr 0 0), (6, .ptr 1 0), (9, .v (.int .i64 (x10))), (10, .v (.int .i64 ((0 : Int))))], ⟨rfl, rfl, rfl, rfl, rfl, rfl, trivial⟩, (0 : Int), rfl, rfl, h13, h14, h15, hF⟩ ?_
        rintro n22 L' V23 M' ⟨x21, rfl, rfl, h24, h25, h26, hF⟩
        rcases n22 with _ | n22
        · exact absurd hF (by simp [F_clockworklaw54_before_L2])
        rw [F_clockworklaw54_before_L2] at hF
        refine Exec.run tyOk 400 rfl ?_
        obtain ⟨q27, hF⟩ := req_some hF
        obtain ⟨c28, hr28, hd28⟩ := SlAt.get h24 q27
        obtain ⟨a29, k29, rfl, h29⟩ := hr28
        refine Exec.ia tyOk rfl rfl ⟨q27.1, q27.2, hd28.some⟩ ?_
        refine Exec.run tyOk 400 rfl ?_
        refine Exec.ld tyOk (x := .slice a29 (((atI x1 x10).Vers).length) (k29)) rfl rfl (RdAt.part hd28 1 1 rfl) rfl rfl ?_
        refine Exec.run tyOk 400 rfl ?_
        rcases cond_some hF with ⟨hb, hF⟩ | ⟨hb, hF⟩
        · skip
          refine Exec.ifT rfl hb ?_
          refine Exec.run tyOk 400 rfl ?_
          obtain ⟨q30, hF⟩ := req_some hF
          obtain ⟨c31, hr31, hd31⟩ := SlAt.get h24 q30
          obtain ⟨a32, k32, rfl, h32⟩ := hr31
          refine Exec.ia tyOk rfl rfl ⟨q30.1, q30.2, hd31.some⟩ ?_
          refine Exec.run tyOk 400 rfl ?_
          refine Exec.ld tyOk (x := .slice a32 (((atI x1 x10).Vers).length) (k32)) rfl rfl (RdAt.part hd31 1 1 rfl) rfl rfl ?_
          refine Exec.run tyOk 400 rfl ?_
          obtain ⟨q33, hF⟩ := req_some hF
          obtain ⟨c34, hr34, hd34⟩ := SlAt.get h32 q33
          obtain rfl := hr34
          refine Exec.ia tyOk rfl rfl ⟨q33.1, q33.2, hd34.some⟩ ?_
          refine Exec.run tyOk 400 rfl ?_
          refine Exec.ld tyOk (x := .int .i64 ((atI ((atI x1 x10).Vers) x21).At)) rfl rfl (RdAt.part hd34 0 1 rfl) rfl rfl ?_
          refine Exec.run tyOk 400 rfl ?_
          obtain ⟨x35, hx35, hF⟩ := bnd_some hF
          refine Exec.callS (.bool (x35)) rfl rfl (fun gg0 => W_clockworklaw54_differ x3 x5 ((atI ((atI x1 x10).Vers) x21).At) h25 h26 (gcall_some hx35 (gd1_of gg0))) ?_
          refine Exec.run tyOk 400 rfl ?_
          rcases cond_some hF with ⟨hb, hF⟩ | ⟨hb, hF⟩
          · skip
            refine Exec.ifT rfl hb ?_
            refine Exec.run tyOk 400 rfl ?_
            obtain rfl := some_inj hF
            exact Exec.ret tyOk rfl rfl rfl
          · skip
            refine Exec.ifF rfl hb ?_
            refine Exec.run tyOk 400 rfl ?_
            exact Exec.round [(0, .v (.slice a2 ((x1).length) (k2))), (3, .v (.int .i64 (x7))), (5, .ptr 0 0), (6, .ptr 1 0), (9, .v (.int .i64 (x10))), (10, .v (.int .i64 ((IntKind.i64.wrap (x21 + (1 : Int))))))] ⟨rfl, rfl, rfl, rfl, rfl, rfl, trivial⟩ ⟨n22, Nat.lt_succ_self _, (IntKind.i64.wrap (x21 + (1 : Int))), rfl, rfl, h24, h25, h26, hF⟩
        · skip
          refine Exec.ifF rfl hb ?_
          refine Exec.run tyOk 400 rfl ?_
          exact Exec.round [(0, .v (.slice a2 ((x1).length) (k2))), (3, .v (.int .i64 (x7))), (5, .ptr 0 0), (6, .ptr 1 0), (9, .v (.int .i64 (x10)))] ⟨rfl, rfl, rfl, rfl, rfl, trivial⟩ ⟨rfl, rfl, h24, h25, h26, hF⟩
    · skip
      refine Exec.ifF rfl hb ?_
      refine Exec.run tyOk 400 rfl ?_
      refine Exec.cut 0 [] (M' := []) rfl trivial rfl rfl rfl ?_
      exact Exec.round [] trivial ⟨rfl, rfl, hF⟩

def F_clockworkref53_Tree_L2 (x1 : List TPair) (x12 : Int) (J18 : Int → Option TTree) : Nat → Int → Int → Option TTree
  | 0, _, _ => none
  | n26 + 1, x24, x25 => (cond (decide (x25 < (((x1).length : Nat) : Int))) (req (0 ≤ x25 ∧ x25 < ((x1).length : Int)) (bnd (F_clockworkref53_Bucket ((atI x1 x25).Key)) fun x31 => (jn (fun (x33 : Int) => (F_clockworkref53_Tree_L2 x1 x12 J18 n26 x33 ((IntKind.i64.wrap (x25 + (1 : Int)))))) (fun J34 => (cond (x31 == x12) (req (0 ≤ x25 ∧ x25 < ((x1).length : Int)) (bnd (F_clockworkref53_Pair ((atI x1 x25))) fun x39 => (J34 ((bits .xor .u64 x24 x39))))) (J34 x24)))))) (J18 x24))

def F_clockworkref53_Tree_L1 (x1 : List TPair) (J6 : (List Int) → Option TTree) : Nat → (List Int) → Int → Option TTree
  | 0, _, _ => none
  | n13 + 1, x11, x12 => (cond (decide (x12 < (64 : Int))) (jn (fun (x17 : Int) => (req (((x11 ++ [x17])).length * 8 ≤ 140737488355328) (F_clockworkref53_Tree_L1 x1 J6 n13 ((x11 ++ [x17])) ((IntKind.i64.wrap (x12 + (1 : Int))))))) (fun J18 => (F_clockworkref53_Tree_L2 x1 x12 J18 (((((x1).length : Nat) : Int)).toNat + 1) ((0 : Int)) ((0 : Int))))) (J6 x11))

def F_clockworkref53_Tree (x1 : List TPair) : Option TTree :=
  (jn (fun (x5 : List Int) => (bnd (F_clockworkref53_Root ((⟨x5, 0⟩ : TTree))) fun x8 => (some (⟨x5, x8⟩ : TTree)))) (fun J6 => (F_clockworkref53_Tree_L1 x1 J6 (((64 : Int)).toNat + 1) (([] : List Int)) ((0 : Int)))))

set_option maxRecDepth 100000 in
theorem W_clockworkref53_Tree {V : View} (x1 : List TPair) {a2 : Option Addr} {k2 : Nat} (h2 : SlAt cTPair V a2 k2 x1) {r : TTree} (hF : F_clockworkref53_Tree x1 = some r) :
    Spec Tryz.prog 35 [.slice a2 ((x1).length) (k2)] V (fun V' v => ∃ (a40 : Option Addr) (k40 : Nat), v = .agg ⟨[.slice a40 ((r.Buckets).length) (k40), .int .u64 (r.Root)]⟩ ∧ SlAt (cInt .u64) V' a40 k40 r.Buckets) := by
  unfold F_clockworkref53_Tree at hF
  refine Spec.enter (T := tyT) Tryz.func35 rfl (by kernel_rfl) rfl rfl rfl ?_
  refine Exec.run tyOk 15 rfl ?_
  refine Exec.row0 45 1 rfl ?_
  have h3 : RowRep (cInt .u64) V ([] : List Int) [] := RowRep.nil
  obtain ⟨J6, hJ6, hF⟩ := jn_some hF
  refine Exec.seam (fun L' V' M' => ∃ (x5 : List Int) (a4 : Option Addr) (k4 : Nat) (cs4 : List Value), L' = [(2, .ptr 0 0), (3, .ptr 1 0)] ∧ M' = [.blk [.v (.slice none (0) (0)), .v (.int .u64 (0))] 50, .blk [.v (.slice a4 ((x5).length) (k4)), .v (.int .u64 (0))] 50, .row (.slice a4 ((x5).length) (k4)) cs4 45 1] ∧ RowRep (cInt .u64) V' x5 cs4 ∧ J6 x5 = some r) rfl ?_ ?_
  · rintro L' V7 M' ⟨x5, a4, k4, cs4, rfl, rfl, h4, hF⟩
    subst hJ6
    refine Exec.run tyOk 400 rfl ?_
    obtain ⟨x8, hx8, hF⟩ := bnd_some hF
    refine Exec.callL (.int .u64 (x8)) rfl rfl (fun _ hv hl => W_clockworkref53_Root ((⟨x5, 0⟩ : TTree)) (RowRep.slat h4 hv (hl 2 _ _ _ _ _ _ rfl).1 (hl 2 _ _ _ _ _ _ rfl).2) hx8) ?_
    refine Exec.run tyOk 400 rfl ?_
    refine Exec.frz 2 rfl rfl rfl (fun V9 hv9 hd9 hn9 => ?_)
    have hz9 := RowRep.slat h4 hv9 hd9 hn9
    obtain rfl := some_inj hF
    exact Exec.ret tyOk rfl rfl ⟨_, _, rfl, hz9⟩
  · skip
    refine Exec.run tyOk 400 rfl ?_
    refine Exec.loop (fun n13 L' V' M' => ∃ (x11 : List Int) (a10 : Option Addr) (k10 : Nat) (cs10 : List Value) (x12 : Int), L' = [(0, .v (.slice a2 ((x1).length) (k2))), (2, .ptr 0 0), (3, .ptr 1 0), (4, .v (.int .i64 (x12)))] ∧ M' = [.blk [.v (.slice none (0) (0)), .v (.int .u64 (0))] 50, .blk [.v (.slice a10 ((x11).length) (k10)), .v (.int .u64 (0))] 50, .row (.slice a10 ((x11).length) (k10)) cs10 45 1] ∧ RowRep (cInt .u64) V' x11 cs10 ∧ SlAt cTPair V' a2 k2 x1 ∧ F_clockworkref53_Tree_L1 x1 J6 n13 x11 x12 = some r) ⟨(((64 : Int)).toNat + 1), [(0, .v (.slice a2 ((x1).length) (k2))), (2, .ptr 0 0), (3, .ptr 1 0), (4, .v (.int .i64 ((0 : Int))))], ⟨rfl, rfl, rfl, rfl, trivial⟩, ([] : List Int), none, 0, [], (0 : Int), rfl, rfl, h3, h2, hF⟩ ?_
    rintro n13 L' V14 M' ⟨x11, a10, k10, cs10, x12, rfl, rfl, h10, h15, hF⟩
    rcases n13 with _ | n13
    · exact absurd hF (by simp [F_clockworkref53_Tree_L1])
    rw [F_clockworkref53_Tree_L1] at hF
    refine Exec.run tyOk 400 rfl ?_
    rcases cond_some hF with ⟨hb, hF⟩ | ⟨hb, hF⟩
    · skip
      refine Exec.ifT rfl hb ?_
      refine Exec.run tyOk 12 rfl ?_
      obtain ⟨J18, hJ18, hF⟩ := jn_some hF
      refine Exec.seam (fun L' V' M' => ∃ (x17 : Int), L' = [(0, .v (.slice a2 ((x1).length) (k2))), (2, .ptr 0 0), (3, .ptr 1 0), (4, .v (.int .i64 (x12))), (5, .v (.int .u64 (x17)))] ∧ M' = [.blk [.v (.slice none (0) (0)), .v (.int .u64 (0))] 50, .blk [.v (.slice a10 ((x11).length) (k10)), .v (.int .u64 (0))] 50, .row (.slice a10 ((x11).length) (k10)) cs10 45 1] ∧ RowRep (cInt .u64) V' x11 cs10 ∧ SlAt cTPair V' a2 k2 x1 ∧ J18 x17 = some r) rfl ?_ ?_
      · rintro L' V19 M' ⟨x17, rfl, rfl, h16, h20, hF⟩
        subst hJ18
        refine Exec.run tyOk 400 rfl ?_
        refine Exec.bsl tyOk rfl rfl ?_
        refine Exec.run tyOk 400 rfl ?_
        obtain ⟨q22, hF⟩ := req_some hF
        refine Exec.app tyOk 2 3 (nm := ((x11 ++ [x17])).length) rfl rfl rfl rfl rfl rfl rfl rfl rfl (by simp) (fun _ _ => rfl) rfl q22 (fun a21 k21 => ?_)
        have h21 : RowRep (cInt .u64) V19 (x11 ++ [x17]) (cs10 ++ [.int .u64 (x17)]) := RowRep.app h16 ⟨_, _, rfl, rfl, rfl⟩
        refine Exec.run tyOk 400 rfl ?_
        refine Exec.cut 3 [(0, .v (.slice a2 ((x1).length) (k2))), (2, .ptr 0 0), (3, .ptr 1 0), (4, .v (.int .i64 ((IntKind.i64.wrap (x12 + (1 : Int))))))] (M' := [.blk [.v (.slice none (0) (0)), .v (.int .u64 (0))] 50, .blk [.v (.slice a21 (((x11 ++ [x17])).length) (k21)), .v (.int .u64 (0))] 50, .row (.slice a21 (((x11 ++ [x17])).length) (k21)) ((cs10 ++ [.int .u64 (x17)])) 45 1]) rfl ⟨rfl, rfl, rfl, rfl, trivial⟩ rfl rfl rfl ?_
        exact Exec.round [(0, .v (.slice a2 ((x1).length) (k2))), (2, .ptr 0 0), (3, .ptr 1 0), (4, .v (.int .i64 ((IntKind.i64.wrap (x12 + (1 : Int))))))] ⟨rfl, rfl, rfl, rfl, trivial⟩ ⟨n13, Nat.lt_succ_self _, (x11 ++ [x17]), a21, k21, (cs10 ++ [.int .u64 (x17)]), (IntKind.i64.wrap (x12 + (1 : Int))), rfl, rfl, h21, h20, hF⟩
      · skip
        refine Exec.run tyOk 400 rfl ?_
        refine Exec.loop (fun n26 L' V' M' => ∃ (x24 : Int) (x25 : Int), L' = [(0, .v (.slice a2 ((x1).length) (k2))), (2, .ptr 0 0), (3, .ptr 1 0), (4, .v (.int .i64 (x12))), (5, .v (.int .u64 (x24))), (6, .v (.int .i64 (x25)))] ∧ M' = [.blk [.v (.slice none (0) (0)), .v (.int .u64 (0))] 50, .blk [.v (.slice a10 ((x11).length) (k10)), .v (.int .u64 (0))] 50, .row (.slice a10 ((x11).length) (k10)) cs10 45 1] ∧ RowRep (cInt .u64) V' x11 cs10 ∧ SlAt cTPair V' a2 k2 x1 ∧ F_clockworkref53_Tree_L2 x1 x12 J18 n26 x24 x25 = some r) ⟨(((((x1).length : Nat) : Int)).toNat + 1), [(0, .v (.slice a2 ((x1).length) (k2))), (2, .ptr 0 0), (3, .ptr 1 0), (4, .v (.int .i64 (x12))), (5, .v (.int .u64 ((0 : Int)))), (6, .v (.int .i64 ((0 : Int))))], ⟨rfl, rfl, rfl, rfl, rfl, rfl, trivial⟩, (0 : Int), (0 : Int), rfl, rfl, h10, h15, hF⟩ ?_
        rintro n26 L' V27 M' ⟨x24, x25, rfl, rfl, h23, h28, hF⟩
        rcases n26 with _ | n26
        · exact absurd hF (by simp [F_clockworkref53_Tree_L2])
        rw [F_clockworkref53_Tree_L2] at hF
        refine Exec.run tyOk 400 rfl ?_
        rcases cond_some hF with ⟨hb, hF⟩ | ⟨hb, hF⟩
        · skip
          refine Exec.ifT rfl hb ?_
          refine Exec.run tyOk 400 rfl ?_
          obtain ⟨q29, hF⟩ := req_some hF
          obtain ⟨c30, hr30, hd30⟩ := SlAt.get h28 q29
          obtain rfl := hr30
          refine Exec.ia tyOk rfl rfl ⟨q29.1, q29.2, hd30.some⟩ ?_
          refine Exec.run tyOk 400 rfl ?_
          refine Exec.ld tyOk (x := .string ⟨⟨(atI x1 x25).Key⟩⟩) rfl rfl (RdAt.part hd30 0 1 rfl) rfl rfl ?_
          refine Exec.run tyOk 400 rfl ?_
          obtain ⟨x31, hx31, hF⟩ := bnd_some hF
          refine Exec.callS (.int .i64 (x31)) rfl rfl (W_clockworkref53_Bucket ((atI x1 x25).Key)  hx31) ?_
          refine Exec.run tyOk 400 rfl ?_
          obtain ⟨J34, hJ34, hF⟩ := jn_some hF
          refine Exec.seam (fun L' V' M' => ∃ (x33 : Int), L' = [(0, .v (.slice a2 ((x1).length) (k2))), (2, .ptr 0 0), (3, .ptr 1 0), (4, .v (.int .i64 (x12))), (5, .v (.int .u64 (x33))), (6, .v (.int .i64 (x25)))] ∧ M' = [.blk [.v (.slice none (0) (0)), .v (.int .u64 (0))] 50, .blk [.v (.slice a10 ((x11).length) (k10)), .v (.int .u64 (0))] 50, .row (.slice a10 ((x11).length) (k10)) cs10 45 1] ∧ RowRep (cInt .u64) V' x11 cs10 ∧ SlAt cTPair V' a2 k2 x1 ∧ J34 x33 = some r) rfl ?_ ?_
          · rintro L' V35 M' ⟨x33, rfl, rfl, h32, h36, hF⟩
            subst hJ34
            refine Exec.run tyOk 400 rfl ?_
            exact Exec.round [(0, .v (.slice a2 ((x1).length) (k2))), (2, .ptr 0 0), (3, .ptr 1 0), (4, .v (.int .i64 (x12))), (5, .v (.int .u64 (x33))), (6, .v (.int .i64 ((IntKind.i64.wrap (x25 + (1 : Int))))))] ⟨rfl, rfl, rfl, rfl, rfl, rfl, trivial⟩ ⟨n26, Nat.lt_succ_self _, x33, (IntKind.i64.wrap (x25 + (1 : Int))), rfl, rfl, h32, h36, hF⟩
          · skip
            refine Exec.run tyOk 400 rfl ?_
            rcases cond_some hF with ⟨hb, hF⟩ | ⟨hb, hF⟩
            · skip
              refine Exec.ifT rfl hb ?_
              refine Exec.run tyOk 400 rfl ?_
              obtain ⟨q37, hF⟩ := req_some hF
              obtain ⟨c38, hr38, hd38⟩ := SlAt.get h28 q37
              obtain rfl := hr38
              refine Exec.ia tyOk rfl rfl ⟨q37.1, q37.2, hd38.some⟩ ?_
              refine Exec.run tyOk 400 rfl ?_
              refine Exec.ld tyOk (x := .agg ⟨[.string ⟨⟨(atI x1 x25).Key⟩⟩, .int .i64 ((atI x1 x25).Val.Kind), .int .i64 ((atI x1 x25).Val.N), .string ⟨⟨(atI x1 x25).Val.S⟩⟩]⟩) rfl rfl hd38 rfl rfl ?_
              refine Exec.run tyOk 400 rfl ?_
              obtain ⟨x39, hx39, hF⟩ := bnd_some hF
              refine Exec.callS (.int .u64 (x39)) rfl rfl (W_clockworkref53_Pair ((atI x1 x25))  hx39) ?_
              refine Exec.run tyOk 400 rfl ?_
              exact Exec.round [(0, .v (.slice a2 ((x1).length) (k2))), (2, .ptr 0 0), (3, .ptr 1 0), (4, .v (.int .i64 (x12))), (5, .v (.int .u64 ((bits .xor .u64 x24 x39)))), (6, .v (.int .i64 (x25)))] ⟨rfl, rfl, rfl, rfl, rfl, rfl, trivial⟩ ⟨(bits .xor .u64 x24 x39), rfl, rfl, h23, h28, hF⟩
            · skip
              refine Exec.ifF rfl hb ?_
              refine Exec.run tyOk 400 rfl ?_
              exact Exec.round [(0, .v (.slice a2 ((x1).length) (k2))), (2, .ptr 0 0), (3, .ptr 1 0), (4, .v (.int .i64 (x12))), (5, .v (.int .u64 (x24))), (6, .v (.int .i64 (x25)))] ⟨rfl, rfl, rfl, rfl, rfl, rfl, trivial⟩ ⟨x24, rfl, rfl, h23, h28, hF⟩
        · skip
          refine Exec.ifF rfl hb ?_
          refine Exec.run tyOk 400 rfl ?_
          exact Exec.round [(0, .v (.slice a2 ((x1).length) (k2))), (2, .ptr 0 0), (3, .ptr 1 0), (4, .v (.int .i64 (x12))), (5, .v (.int .u64 (x24)))] ⟨rfl, rfl, rfl, rfl, rfl, trivial⟩ ⟨x24, rfl, rfl, h23, h28, hF⟩
    · skip
      refine Exec.ifF rfl hb ?_
      refine Exec.run tyOk 400 rfl ?_
      exact Exec.round [(2, .ptr 0 0), (3, .ptr 1 0)] ⟨rfl, rfl, trivial⟩ ⟨x11, a10, k10, cs10, rfl, rfl, h10, hF⟩

-- uses W_state_merge_api_Pair
def diRel (b0 b2 : Nat) (_V : View) (s : List TPair) (r0 r1 r2 : RowD) : Prop :=
  ∃ a k cs, r0 = ⟨.slice (some ⟨b0, 0, none⟩) 1 1, [.slice a s.length k], 24, 1⟩ ∧ r1 = ⟨.slice a s.length k, cs, 55, 4⟩ ∧
    r2 = ⟨.slice (some ⟨b2, 0, none⟩) 1 1, [.func (.func 66) #[] ⟨[.pointer (some ⟨b0, 0, none⟩)]⟩], 93, 1⟩ ∧ RowRep cTPair _V s cs

def diRemove (s : List TPair) (y : TPair) : Option (List TPair) := req ((s ++ [(⟨y.Key, (default : TValue)⟩ : TPair)]).length * 48 ≤ 140737488355328) (some (s ++ [(⟨y.Key, (default : TValue)⟩ : TPair)]))
def diAdd (s : List TPair) (y : TPair) : Option (List TPair) := req ((s ++ [y]).length * 48 ≤ 140737488355328) (some (s ++ [y]))
def diBoth (s : List TPair) (x y : TPair) : Option (List TPair) :=
  cond (!((x.Val.Kind == y.Val.Kind) && ((x.Val.N == y.Val.N) && ((x.Val.S == y.Val.S) && true)))) (bnd (diAdd s y) fun t => some t) (some s)

set_option maxRecDepth 100000 in
theorem X_Diff1 {V : View} (b0 b2 : Nat) : FnSt1 Tryz.prog 65 [.pointer (some ⟨b0, 0, none⟩)] V mkPair (diRel b0 b2) diRemove := by
  intro V1 hv l r0 r1 r2 y s' ⟨a, k, cs, h0, h1, h2, hrep⟩ hg
  subst h0; subst h1; subst h2
  unfold diRemove at hg
  obtain ⟨q, hg⟩ := req_some hg
  obtain rfl := some_inj hg
  refine SpecR.enter (T := tyT) Tryz.func65 rfl (by kernel_rfl) rfl rfl rfl (M := [.row (.slice (some ⟨b0, 0, none⟩) 1 1) [.slice a l.length k] 24 1, .row (.slice a l.length k) cs 55 4, .row (.slice (some ⟨b2, 0, none⟩) 1 1) [.func (.func 66) #[] ⟨[.pointer (some ⟨b0, 0, none⟩)]⟩] 93 1]) rfl ?_
  refine Exec.run tyOk 400 rfl ?_
  refine Exec.ldR tyOk 0 (l := [.slice a l.length k]) rfl rfl rfl ⟨fun j v hv => by simpa using hv, b0, 0, rfl⟩ rfl rfl ?_
  refine Exec.run tyOk 400 rfl ?_
  refine Exec.bsl tyOk rfl rfl ?_
  refine Exec.run tyOk 400 rfl ?_
  refine Exec.app tyOk 1 4 (nm := (l ++ [(⟨y.Key, (default : TValue)⟩ : TPair)]).length) rfl rfl rfl rfl rfl rfl rfl rfl rfl (by simp) (fun _ _ => rfl) rfl q (fun a3 k3 => ?_)
  refine Exec.run tyOk 400 rfl ?_
  refine Exec.stR tyOk 0 rfl rfl rfl rfl rfl ⟨b0, 0, rfl⟩ (Nat.le_refl _) rfl rfl rfl ?_
  refine Exec.run tyOk 400 rfl ?_
  refine Exec.fall tyOk rfl rfl ?_
  dsimp only
  exact ⟨[⟨.slice (some ⟨b0, 0, none⟩) 1 1, [.slice a3 (l ++ [(⟨y.Key, (default : TValue)⟩ : TPair)]).length k3], _, 1⟩, ⟨.slice a3 (l ++ [(⟨y.Key, (default : TValue)⟩ : TPair)]).length k3, _, _, 4⟩, ⟨.slice (some ⟨b2, 0, none⟩) 1 1, [.func (.func 66) #[] ⟨[.pointer (some ⟨b0, 0, none⟩)]⟩], _, 1⟩], rfl, rfl, rfl, _, _, _, rfl, a3, k3, _, rfl, rfl, rfl, RowRep.app hrep ⟨_, _, rfl, rfl, rfl⟩⟩

set_option maxRecDepth 100000 in
theorem X_Diff2 {V : View} (b0 b2 : Nat) : FnSt1 Tryz.prog 66 [.pointer (some ⟨b0, 0, none⟩)] V mkPair (diRel b0 b2) diAdd := by
  intro V1 hv l r0 r1 r2 y s' ⟨a, k, cs, h0, h1, h2, hrep⟩ hg
  subst h0; subst h1; subst h2
  unfold diAdd at hg
  obtain ⟨q, hg⟩ := req_some hg
  obtain rfl := some_inj hg
  refine SpecR.enter (T := tyT) Tryz.func66 rfl (by kernel_rfl) rfl rfl rfl (M := [.row (.slice (some ⟨b0, 0, none⟩) 1 1) [.slice a l.length k] 24 1, .row (.slice a l.length k) cs 55 4, .row (.slice (some ⟨b2, 0, none⟩) 1 1) [.func (.func 66) #[] ⟨[.pointer (some ⟨b0, 0, none⟩)]⟩] 93 1]) rfl ?_
  refine Exec.run tyOk 400 rfl ?_
  refine Exec.ldR tyOk 0 (l := [.slice a l.length k]) rfl rfl rfl ⟨fun j v hv => by simpa using hv, b0, 0, rfl⟩ rfl rfl ?_
  refine Exec.run tyOk 400 rfl ?_
  refine Exec.bsl tyOk rfl rfl ?_
  refine Exec.run tyOk 400 rfl ?_
  refine Exec.app tyOk 1 4 (nm := (l ++ [y]).length) rfl rfl rfl rfl rfl rfl rfl rfl rfl (by simp) (fun _ _ => rfl) rfl q (fun a3 k3 => ?_)
  refine Exec.run tyOk 400 rfl ?_
  refine Exec.stR tyOk 0 rfl rfl rfl rfl rfl ⟨b0, 0, rfl⟩ (Nat.le_refl _) rfl rfl rfl ?_
  refine Exec.run tyOk 400 rfl ?_
  refine Exec.fall tyOk rfl rfl ?_
  dsimp only
  exact ⟨[⟨.slice (some ⟨b0, 0, none⟩) 1 1, [.slice a3 (l ++ [y]).length k3], _, 1⟩, ⟨.slice a3 (l ++ [y]).length k3, _, _, 4⟩, ⟨.slice (some ⟨b2, 0, none⟩) 1 1, [.func (.func 66) #[] ⟨[.pointer (some ⟨b0, 0, none⟩)]⟩], _, 1⟩], rfl, rfl, rfl, _, _, _, rfl, a3, k3, _, rfl, rfl, rfl, RowRep.app hrep ⟨_, _, rfl, rfl, rfl⟩⟩

set_option maxRecDepth 100000 in
theorem X_Diff3 {V : View} (b0 b2 : Nat) : FnSt2 Tryz.prog 69 [.pointer (some ⟨b2, 0, none⟩)] V mkPair mkPair (diRel b0 b2) diBoth := by
  intro V1 hv l r0 r1 r2 y y2 s' ⟨a, k, cs, h0, h1, h2, hrep⟩ hF
  subst h0; subst h1; subst h2
  unfold diBoth at hF
  refine SpecR.enter (T := tyT) Tryz.func69 rfl (by kernel_rfl) rfl rfl rfl (M := [.row (.slice (some ⟨b0, 0, none⟩) 1 1) [.slice a l.length k] 24 1, .row (.slice a l.length k) cs 55 4, .row (.slice (some ⟨b2, 0, none⟩) 1 1) [.func (.func 66) #[] ⟨[.pointer (some ⟨b0, 0, none⟩)]⟩] 93 1]) rfl ?_
  refine Exec.run tyOk 400 rfl ?_
  rcases cond_some hF with ⟨hb, hF⟩ | ⟨hb, hF⟩
  · skip
    refine Exec.ifT rfl hb ?_
    refine Exec.run tyOk 400 rfl ?_
    refine Exec.ldR tyOk 2 (l := [.func (.func 66) #[] ⟨[.pointer (some ⟨b0, 0, none⟩)]⟩]) rfl rfl rfl ⟨fun j v hv => by simpa using hv, b2, 0, rfl⟩ rfl rfl ?_
    refine Exec.run tyOk 400 rfl ?_
    obtain ⟨s9, hs9, hF⟩ := bnd_some hF
    obtain rfl := some_inj hF
    refine Exec.callR [0, 1, 2] (rs := [⟨.slice (some ⟨b0, 0, none⟩) 1 1, [.slice a l.length k], 24, 1⟩, ⟨.slice a l.length k, cs, 55, 4⟩, ⟨.slice (some ⟨b2, 0, none⟩) 1 1, [.func (.func 66) #[] ⟨[.pointer (some ⟨b0, 0, none⟩)]⟩], 93, 1⟩]) rfl rfl rfl rfl rfl rfl
      (X_Diff2 b0 b2 V1 (VLe.refl V1) l _ _ _ y2 s9 ⟨a, k, cs, rfl, rfl, rfl, hrep⟩ hs9) ?_
    rintro V7 _ _ hv7 ⟨rfl, q0, q1, q2, rfl, a5, k5, cs5, rfl, rfl, rfl, hrep5⟩
    refine ⟨_, rfl, ?_⟩
    refine Exec.run tyOk 400 rfl ?_
    refine Exec.fall tyOk rfl rfl ?_
    dsimp only
    exact ⟨[⟨.slice (some ⟨b0, 0, none⟩) 1 1, [.slice a5 s9.length k5], _, 1⟩, ⟨.slice a5 s9.length k5, cs5, _, 4⟩, ⟨.slice (some ⟨b2, 0, none⟩) 1 1, [.func (.func 66) #[] ⟨[.pointer (some ⟨b0, 0, none⟩)]⟩], _, 1⟩], rfl, rfl, rfl, _, _, _, rfl, a5, k5, cs5, rfl, rfl, rfl, hrep5⟩
  · skip
    refine Exec.ifF rfl hb ?_
    refine Exec.run tyOk 400 rfl ?_
    obtain rfl := some_inj hF
    refine Exec.fall tyOk rfl rfl ?_
    dsimp only
    exact ⟨[⟨.slice (some ⟨b0, 0, none⟩) 1 1, [.slice a l.length k], _, 1⟩, ⟨.slice a l.length k, cs, _, 4⟩, ⟨.slice (some ⟨b2, 0, none⟩) 1 1, [.func (.func 66) #[] ⟨[.pointer (some ⟨b0, 0, none⟩)]⟩], _, 1⟩], rfl, rfl, rfl, _, _, _, rfl, a, k, cs, rfl, rfl, rfl, hrep⟩

def F_state_Diff (x1 x3 : List TPair) : Option (List TPair × Int) :=
  bnd (F_state_Valid x1) fun x5 => bnd (gcall ((!x5) == false) (F_state_Valid x3)) fun x6 => cond ((!x5) || (!x6)) (some ([], 1))
    (bnd (mergeF x1 x3 F_state_order diRemove diAdd diBoth []) fun s => some (s, 0))

set_option maxRecDepth 100000 in
theorem W_state_Diff {V : View} (x1 : List TPair) (x3 : List TPair) {a2 : Option Addr} {k2 : Nat} {a4 : Option Addr} {k4 : Nat} (h2 : SlAt cTPair V a2 k2 x1) (h4 : SlAt cTPair V a4 k4 x3) {r : List TPair × Int} (hF : F_state_Diff x1 x3 = some r) :
    Spec Tryz.prog 36 [.slice a2 ((x1).length) (k2), .slice a4 ((x3).length) (k4)] V (fun V' v => ∃ (a22 : Option Addr) (k22 : Nat), v = .tuple ⟨[.slice a22 ((r.1).length) (k22), .int .i64 (r.2)]⟩ ∧ SlAt cTPair V' a22 k22 r.1) := by
  unfold F_state_Diff at hF
  refine Spec.enter (T := tyT) Tryz.func36 rfl (by kernel_rfl) rfl rfl rfl ?_
  refine Exec.run tyOk 400 rfl ?_
  obtain ⟨x5, hx5, hF⟩ := bnd_some hF
  refine Exec.callS (.bool (x5)) rfl rfl (W_state_Valid x1 h2 hx5) ?_
  refine Exec.run tyOk 400 rfl ?_
  obtain ⟨x6, hx6, hF⟩ := bnd_some hF
  refine Exec.callS (.bool (x6)) rfl rfl (fun gg0 => W_state_Valid x3 h4 (gcall_some hx6 (gd1_of gg0))) ?_
  refine Exec.run tyOk 400 rfl ?_
  rcases cond_some hF with ⟨hb, hF⟩ | ⟨hb, hF⟩
  · skip
    refine Exec.ifT rfl hb ?_
    refine Exec.run tyOk 400 rfl ?_
    obtain rfl := some_inj hF
    exact Exec.ret tyOk rfl rfl ⟨_, _, rfl, SlAt.nil⟩
  · skip
    refine Exec.ifF rfl hb ?_
    refine Exec.run tyOk 400 rfl ?_
    refine Exec.fixR 0 (n := 1) (sz := 1) rfl rfl rfl rfl rfl (fun _ => rfl) (fun _ => rfl) (fun _ => rfl) (fun b0 => ?_)
    refine Exec.mkf rfl rfl ?_
    refine Exec.run tyOk 400 rfl ?_
    refine Exec.mkf rfl rfl ?_
    refine Exec.run tyOk 400 rfl ?_
    refine Exec.fixR 1 (n := 1) (sz := 1) rfl rfl rfl rfl rfl (fun _ => rfl) (fun _ => rfl) (fun _ => rfl) (fun b2 => ?_)
    refine Exec.mkf rfl rfl ?_
    refine Exec.row0 55 4 rfl ?_
    obtain ⟨s, hs, hF⟩ := bnd_some hF
    refine Exec.callR [0, 2, 1] (rs := [⟨.slice (some ⟨b0, 0, none⟩) 1 1, [.slice none 0 0], 24, 1⟩, ⟨.slice none 0 0, [], 55, 4⟩, ⟨.slice (some ⟨b2, 0, none⟩) 1 1, [.func (.func 66) #[] ⟨[.pointer (some ⟨b0, 0, none⟩)]⟩], 93, 1⟩]) rfl rfl rfl rfl rfl rfl
      (X_merge (rel := diRel b0 b2) x1 x3 F_state_order diRemove diAdd diBoth h2 h4 (fun V' hv y0 y1 r hr => W_state_order y0 y1 hr) (X_Diff1 b0 b2) (X_Diff2 b0 b2) (X_Diff3 b0 b2) (s := []) ⟨none, 0, [], rfl, rfl, rfl, RowRep.nil⟩ hs) ?_
    rintro V7 _ _ hv7 ⟨rfl, q0, q1, q2, rfl, a, k, cs, rfl, rfl, rfl, hrep⟩
    refine ⟨_, rfl, ?_⟩
    refine Exec.run tyOk 400 rfl ?_
    refine Exec.ldR tyOk 0 (l := [.slice a s.length k]) rfl rfl rfl ⟨fun j v hv => by simpa using hv, b0, 0, rfl⟩ rfl rfl ?_
    refine Exec.run tyOk 400 rfl ?_
    refine Exec.frz 2 rfl rfl rfl (fun V13 hv13 hd13 hn13 => ?_)
    have hz13 := RowRep.slat hrep hv13 hd13 hn13
    obtain rfl := some_inj hF
    exact Exec.ret tyOk rfl rfl ⟨_, _, rfl, hz13⟩

def F_verify_History_L1 (x1 : List (List TPair)) (J6 : (List Int) → Option (List Int)) : Nat → (List Int) → Int → Option (List Int)
  | 0, _, _ => none
  | n12 + 1, x10, x11 => (cond (decide (x11 < (((x1).length : Nat) : Int))) (req (0 ≤ x11 ∧ x11 < ((x1).length : Int)) (bnd (F_digest_Tree ((atI x1 x11))) fun x18 => (bnd (F_digest_Root x18) fun x25 => (req (((x10 ++ [x25])).length * 8 ≤ 140737488355328) (F_verify_History_L1 x1 J6 n12 ((x10 ++ [x25])) ((IntKind.i64.wrap (x11 + (1 : Int))))))))) (J6 x10))

def F_verify_History (x1 : List (List TPair)) : Option (List Int) :=
  (jn (fun (x5 : List Int) => (some x5)) (fun J6 => (F_verify_History_L1 x1 J6 (((((x1).length : Nat) : Int)).toNat + 1) (([] : List Int)) ((0 : Int)))))

set_option maxRecDepth 100000 in
theorem W_verify_History {V : View} (x1 : List (List TPair)) {a2 : Option Addr} {k2 : Nat} (h2 : SlAt (cSl cTPair) V a2 k2 x1) {r : List Int} (hF : F_verify_History x1 = some r) :
    Spec Tryz.prog 12 [.slice a2 ((x1).length) (k2)] V (fun V' v => ∃ (a28 : Option Addr) (k28 : Nat), v = .slice a28 ((r).length) (k28) ∧ SlAt (cInt .u64) V' a28 k28 r) := by
  unfold F_verify_History at hF
  refine Spec.enter (T := tyT) Tryz.func12 rfl (by kernel_rfl) rfl rfl rfl ?_
  refine Exec.run tyOk 15 rfl ?_
  refine Exec.row0 45 1 rfl ?_
  have h3 : RowRep (cInt .u64) V ([] : List Int) [] := RowRep.nil
  obtain ⟨J6, hJ6, hF⟩ := jn_some hF
  refine Exec.seam (fun L' V' M' => ∃ (x5 : List Int) (a4 : Option Addr) (k4 : Nat) (cs4 : List Value), L' = [(3, .v (.slice a4 ((x5).length) (k4)))] ∧ M' = [.row (.slice a4 ((x5).length) (k4)) cs4 45 1] ∧ RowRep (cInt .u64) V' x5 cs4 ∧ J6 x5 = some r) rfl ?_ ?_
  · rintro L' V7 M' ⟨x5, a4, k4, cs4, rfl, rfl, h4, hF⟩
    subst hJ6
    refine Exec.run tyOk 400 rfl ?_
    refine Exec.frz 0 rfl rfl rfl (fun V8 hv8 hd8 hn8 => ?_)
    have hz8 := RowRep.slat h4 hv8 hd8 hn8
    obtain rfl := some_inj hF
    exact Exec.ret tyOk rfl rfl ⟨_, _, rfl, hz8⟩
  · skip
    refine Exec.run tyOk 400 rfl ?_
    refine Exec.loop (fun n12 L' V' M' => ∃ (x10 : List Int) (a9 : Option Addr) (k9 : Nat) (cs9 : List Value) (x11 : Int), L' = [(3, .v (.slice a9 ((x10).length) (k9))), (6, .v (.slice a2 ((x1).length) (k2))), (7, .v (.int .i64 ((((x1).length : Nat) : Int)))), (8, .v (.int .i64 (x11)))] ∧ M' = [.row (.slice a9 ((x10).length) (k9)) cs9 45 1] ∧ RowRep (cInt .u64) V' x10 cs9 ∧ SlAt (cSl cTPair) V' a2 k2 x1 ∧ F_verify_History_L1 x1 J6 n12 x10 x11 = some r) ⟨(((((x1).length : Nat) : Int)).toNat + 1), [(3, .v (.slice none ((([] : List Int)).length) (0))), (6, .v (.slice a2 ((x1).length) (k2))), (7, .v (.int .i64 ((((x1).length : Nat) : Int)))), (8, .v (.int .i64 ((0 : Int))))], ⟨rfl, rfl, rfl, rfl, trivial⟩, ([] : List Int), none, 0, [], (0 : Int), rfl, rfl, h3, h2, hF⟩ ?_
    rintro n12 L' V13 M' ⟨x10, a9, k9, cs9, x11, rfl, rfl, h9, h14, hF⟩
    rcases n12 with _ | n12
    · exact absurd hF (by simp [F_verify_History_L1])
    rw [F_verify_History_L1] at hF
    refine Exec.run tyOk 400 rfl ?_
    rcases cond_some hF with ⟨hb, hF⟩ | ⟨hb, hF⟩
    · skip
      refine Exec.ifT rfl hb ?_
      refine Exec.run tyOk 400 rfl ?_
      obtain ⟨q15, hF⟩ := req_some hF
      obtain ⟨c16, hr16, hd16⟩ := SlAt.get h14 q15
      obtain ⟨a17, k17, rfl, h17⟩ := hr16
      refine Exec.ia tyOk rfl rfl ⟨q15.1, q15.2, hd16.some⟩ ?_
      refine Exec.run tyOk 400 rfl ?_
      refine Exec.ld tyOk (x := .slice a17 (((atI x1 x11)).length) (k17)) rfl rfl hd16 rfl rfl ?_
      refine Exec.run tyOk 400 rfl ?_
      obtain ⟨x18, hx18, hF⟩ := bnd_some hF
      refine Exec.call rfl rfl (W_digest_Tree ((atI x1 x11)) h17 hx18) ?_
      rintro V20 _ hv20 ⟨a19, k19, rfl, h19⟩
      have h21 := SlAt.mono h17 hv20
      have h22 := SlAt.mono h14 hv20
      have h24 := RowRep.mono hv20 h9
      refine Exec.run tyOk 400 rfl ?_
      obtain ⟨x25, hx25, hF⟩ := bnd_some hF
      refine Exec.callS (.int .u64 (x25)) rfl rfl (W_digest_Root x18 h19 hx25) ?_
      refine Exec.run tyOk 400 rfl ?_
      refine Exec.bsl tyOk rfl rfl ?_
      refine Exec.run tyOk 400 rfl ?_
      obtain ⟨q27, hF⟩ := req_some hF
      refine Exec.app tyOk 0 1 (nm := ((x10 ++ [x25])).length) rfl rfl rfl rfl rfl rfl rfl rfl rfl (by simp) (fun _ _ => rfl) rfl q27 (fun a26 k26 => ?_)
      have h26 : RowRep (cInt .u64) V20 (x10 ++ [x25]) (cs9 ++ [.int .u64 (x25)]) := RowRep.app h24 ⟨_, _, rfl, rfl, rfl⟩
      refine Exec.run tyOk 400 rfl ?_
      refine Exec.cut 1 [(3, .v (.slice a26 (((x10 ++ [x25])).length) (k26))), (6, .v (.slice a2 ((x1).length) (k2))), (7, .v (.int .i64 ((((x1).length : Nat) : Int)))), (8, .v (.int .i64 ((IntKind.i64.wrap (x11 + (1 : Int))))))] (M' := [.row (.slice a26 (((x10 ++ [x25])).length) (k26)) ((cs9 ++ [.int .u64 (x25)])) 45 1]) rfl ⟨rfl, rfl, rfl, rfl, trivial⟩ rfl rfl rfl ?_
      exact Exec.round [(3, .v (.slice a26 (((x10 ++ [x25])).length) (k26))), (6, .v (.slice a2 ((x1).length) (k2))), (7, .v (.int .i64 ((((x1).length : Nat) : Int)))), (8, .v (.int .i64 ((IntKind.i64.wrap (x11 + (1 : Int))))))] ⟨rfl, rfl, rfl, rfl, trivial⟩ ⟨n12, Nat.lt_succ_self _, (x10 ++ [x25]), a26, k26, (cs9 ++ [.int .u64 (x25)]), (IntKind.i64.wrap (x11 + (1 : Int))), rfl, rfl, h26, h22, hF⟩
    · skip
      refine Exec.ifF rfl hb ?_
      refine Exec.run tyOk 400 rfl ?_
      exact Exec.round [(3, .v (.slice a9 ((x10).length) (k9)))] ⟨rfl, trivial⟩ ⟨x10, a9, k9, cs9, rfl, rfl, h9, hF⟩

def F_clockworkref54_History_L1 (x1 : List (List TPair)) (J6 : (List Int) → Option (List Int)) : Nat → (List Int) → Int → Option (List Int)
  | 0, _, _ => none
  | n12 + 1, x10, x11 => (cond (decide (x11 < (((x1).length : Nat) : Int))) (req (0 ≤ x11 ∧ x11 < ((x1).length : Int)) (bnd (F_clockworkref53_Tree ((atI x1 x11))) fun x18 => (req (((x10 ++ [x18.Root])).length * 8 ≤ 140737488355328) (F_clockworkref54_History_L1 x1 J6 n12 ((x10 ++ [x18.Root])) ((IntKind.i64.wrap (x11 + (1 : Int)))))))) (J6 x10))

def F_clockworkref54_History (x1 : List (List TPair)) : Option (List Int) :=
  (jn (fun (x5 : List Int) => (some x5)) (fun J6 => (F_clockworkref54_History_L1 x1 J6 (((((x1).length : Nat) : Int)).toNat + 1) (([] : List Int)) ((0 : Int)))))

set_option maxRecDepth 100000 in
theorem W_clockworkref54_History {V : View} (x1 : List (List TPair)) {a2 : Option Addr} {k2 : Nat} (h2 : SlAt (cSl cTPair) V a2 k2 x1) {r : List Int} (hF : F_clockworkref54_History x1 = some r) :
    Spec Tryz.prog 13 [.slice a2 ((x1).length) (k2)] V (fun V' v => ∃ (a27 : Option Addr) (k27 : Nat), v = .slice a27 ((r).length) (k27) ∧ SlAt (cInt .u64) V' a27 k27 r) := by
  unfold F_clockworkref54_History at hF
  refine Spec.enter (T := tyT) Tryz.func13 rfl (by kernel_rfl) rfl rfl rfl ?_
  refine Exec.run tyOk 13 rfl ?_
  refine Exec.row0 45 1 rfl ?_
  have h3 : RowRep (cInt .u64) V ([] : List Int) [] := RowRep.nil
  obtain ⟨J6, hJ6, hF⟩ := jn_some hF
  refine Exec.seam (fun L' V' M' => ∃ (x5 : List Int) (a4 : Option Addr) (k4 : Nat) (cs4 : List Value), L' = [(3, .v (.slice a4 ((x5).length) (k4)))] ∧ M' = [.row (.slice a4 ((x5).length) (k4)) cs4 45 1] ∧ RowRep (cInt .u64) V' x5 cs4 ∧ J6 x5 = some r) rfl ?_ ?_
  · rintro L' V7 M' ⟨x5, a4, k4, cs4, rfl, rfl, h4, hF⟩
    subst hJ6
    refine Exec.run tyOk 400 rfl ?_
    refine Exec.frz 0 rfl rfl rfl (fun V8 hv8 hd8 hn8 => ?_)
    have hz8 := RowRep.slat h4 hv8 hd8 hn8
    obtain rfl := some_inj hF
    exact Exec.ret tyOk rfl rfl ⟨_, _, rfl, hz8⟩
  · skip
    refine Exec.run tyOk 400 rfl ?_
    refine Exec.loop (fun n12 L' V' M' => ∃ (x10 : List Int) (a9 : Option Addr) (k9 : Nat) (cs9 : List Value) (x11 : Int), L' = [(0, .v (.slice a2 ((x1).length) (k2))), (3, .v (.slice a9 ((x10).length) (k9))), (4, .v (.int .i64 (x11)))] ∧ M' = [.row (.slice a9 ((x10).length) (k9)) cs9 45 1] ∧ RowRep (cInt .u64) V' x10 cs9 ∧ SlAt (cSl cTPair) V' a2 k2 x1 ∧ F_clockworkref54_History_L1 x1 J6 n12 x10 x11 = some r) ⟨(((((x1).length : Nat) : Int)).toNat + 1), [(0, .v (.slice a2 ((x1).length) (k2))), (3, .v (.slice none ((([] : List Int)).length) (0))), (4, .v (.int .i64 ((0 : Int))))], ⟨rfl, rfl, rfl, trivial⟩, ([] : List Int), none, 0, [], (0 : Int), rfl, rfl, h3, h2, hF⟩ ?_
    rintro n12 L' V13 M' ⟨x10, a9, k9, cs9, x11, rfl, rfl, h9, h14, hF⟩
    rcases n12 with _ | n12
    · exact absurd hF (by simp [F_clockworkref54_History_L1])
    rw [F_clockworkref54_History_L1] at hF
    refine Exec.run tyOk 400 rfl ?_
    rcases cond_some hF with ⟨hb, hF⟩ | ⟨hb, hF⟩
    · skip
      refine Exec.ifT rfl hb ?_
      refine Exec.run tyOk 400 rfl ?_
      obtain ⟨q15, hF⟩ := req_some hF
      obtain ⟨c16, hr16, hd16⟩ := SlAt.get h14 q15
      obtain ⟨a17, k17, rfl, h17⟩ := hr16
      refine Exec.ia tyOk rfl rfl ⟨q15.1, q15.2, hd16.some⟩ ?_
      refine Exec.run tyOk 400 rfl ?_
      refine Exec.ld tyOk (x := .slice a17 (((atI x1 x11)).length) (k17)) rfl rfl hd16 rfl rfl ?_
      refine Exec.run tyOk 400 rfl ?_
      obtain ⟨x18, hx18, hF⟩ := bnd_some hF
      refine Exec.call rfl rfl (W_clockworkref53_Tree ((atI x1 x11)) h17 hx18) ?_
      rintro V20 _ hv20 ⟨a19, k19, rfl, h19⟩
      have h21 := SlAt.mono h14 hv20
      have h23 := SlAt.mono h17 hv20
      have h24 := RowRep.mono hv20 h9
      refine Exec.run tyOk 400 rfl ?_
      refine Exec.bsl tyOk rfl rfl ?_
      refine Exec.run tyOk 400 rfl ?_
      obtain ⟨q26, hF⟩ := req_some hF
      refine Exec.app tyOk 0 1 (nm := ((x10 ++ [x18.Root])).length) rfl rfl rfl rfl rfl rfl rfl rfl rfl (by simp) (fun _ _ => rfl) rfl q26 (fun a25 k25 => ?_)
      have h25 : RowRep (cInt .u64) V20 (x10 ++ [x18.Root]) (cs9 ++ [.int .u64 (x18.Root)]) := RowRep.app h24 ⟨_, _, rfl, rfl, rfl⟩
      refine Exec.run tyOk 400 rfl ?_
      refine Exec.cut 1 [(0, .v (.slice a2 ((x1).length) (k2))), (3, .v (.slice a25 (((x10 ++ [x18.Root])).length) (k25))), (4, .v (.int .i64 ((IntKind.i64.wrap (x11 + (1 : Int))))))] (M' := [.row (.slice a25 (((x10 ++ [x18.Root])).length) (k25)) ((cs9 ++ [.int .u64 (x18.Root)])) 45 1]) rfl ⟨rfl, rfl, rfl, trivial⟩ rfl rfl rfl ?_
      exact Exec.round [(0, .v (.slice a2 ((x1).length) (k2))), (3, .v (.slice a25 (((x10 ++ [x18.Root])).length) (k25))), (4, .v (.int .i64 ((IntKind.i64.wrap (x11 + (1 : Int))))))] ⟨rfl, rfl, rfl, trivial⟩ ⟨n12, Nat.lt_succ_self _, (x10 ++ [x18.Root]), a25, k25, (cs9 ++ [.int .u64 (x18.Root)]), (IntKind.i64.wrap (x11 + (1 : Int))), rfl, rfl, h25, h21, hF⟩
    · skip
      refine Exec.ifF rfl hb ?_
      refine Exec.run tyOk 400 rfl ?_
      exact Exec.round [(3, .v (.slice a9 ((x10).length) (k9)))] ⟨rfl, trivial⟩ ⟨x10, a9, k9, cs9, rfl, rfl, h9, hF⟩

-- uses W_digest_Tree W_digest_Diff W_digest_Bucket W_state_Diff
section
open Go.RowKit Go.Proofs

def muS (s : Nat) (n : Nat) (a : Act) : Nat := match a.tmps[s]? with
  | some (.int _ i) => ((n : Int) - i).toNat
  | _ => 0

theorem ItSv.muS {J : List Int → View → World → Prop} {nt : Nat} {L : Fr} {V : View} {pre : List Int} {a : Act} {w : World} (h : ItSv J nt L V pre a w) {s : Nat} {i : Int} (n : Nat) (hs : lookL L s = some (.v (.int .i64 i))) :
    Go.Proofs.YtonijgmopcmldaaGreat.muS s n a = ((n : Int) - i).toNat := by
  have h1 : a.tmps[s]? = some (.int .i64 i) := (h.lk s _ hs).1
  simp [Go.Proofs.YtonijgmopcmldaaGreat.muS, h1]

theorem RSt.muS {nt : Nat} {V0 : View} {FR : Frm} {ds : List Deferred} {L : Fr} {V : View} {M : List OB} {a : Act} {w : World} (h : RSt nt V0 FR ds L V M a w) {s : Nat} {i : Int} (n : Nat) (hs : lookL L s = some (.v (.int .i64 i))) :
    Go.Proofs.YtonijgmopcmldaaGreat.muS s n a = ((n : Int) - i).toNat := by
  obtain ⟨env, _, hl⟩ := h.st
  have h1 : a.tmps[s]? = some (.int .i64 i) := (hl s _ hs).1
  simp [Go.Proofs.YtonijgmopcmldaaGreat.muS, h1]

theorem drop_atS {α : Type} [Inhabited α] (l : List α) (i : Int) (hi : 0 ≤ i ∧ i < (l.length : Int)) : l.drop i.toNat = atI l i :: l.drop (i + 1).toNat := by
  have h : i.toNat < l.length := by omega
  rw [List.drop_eq_getElem_cons h, show (i + 1).toNat = i.toNat + 1 by omega]
  congr 1
  simp [atI, List.getD_eq_getElem?_getD, h]

def suspF (x1 x3 : List TPair) : Option (List Int) := bnd (F_digest_Tree x1) fun y1 => bnd (F_digest_Tree x3) fun y3 => F_digest_Diff y1 y3

set_option maxRecDepth 100000 in
theorem X_suspects1 {V0 : View} (x3 x5 : List TPair) {a4 : Option Addr} {k4 : Nat} {b0 : Nat} {a6 : Option Addr} {k6 : Nat} {b1 : Nat} (g4 : SlAt cTPair V0 a4 k4 x3) (gc0 : RdAt V0 (some ⟨b0, 0, none⟩) 0 [.slice a4 ((x3).length) (k4)])
    (g6 : SlAt cTPair V0 a6 k6 x5) (gc1 : RdAt V0 (some ⟨b1, 0, none⟩) 0 [.slice a6 ((x5).length) (k6)]) {xs : List Int} (hF : suspF x3 x5 = some xs) (hm : xs.length < 9223372036854775807) :
    SeqV Tryz.prog 70 #[.pointer (some ⟨b0, 0, none⟩), .pointer (some ⟨b1, 0, none⟩)] xs V0 := by
  intro l J V W hVV hJ hY h0
  have h4 := SlAt.mono g4 hVV
  have h6 := SlAt.mono g6 hVV
  have hc0 := RdAt.mono gc0 hVV
  have hc1 := RdAt.mono gc1 hVV
  clear g4 g6 gc0 gc1
  obtain ⟨y1, hy1, hF⟩ := bnd_some hF
  obtain ⟨y3, hy3, hF⟩ := bnd_some hF
  have e : (#[Value.func (.yield l) #[] #[]] ++ #[Value.pointer (some ⟨b0, 0, none⟩), Value.pointer (some ⟨b1, 0, none⟩)] : Array Value) = ⟨[Value.func (.yield l) #[] #[], Value.pointer (some ⟨b0, 0, none⟩), Value.pointer (some ⟨b1, 0, none⟩)]⟩ := by simp
  rw [e]
  refine (callsIn_wide (n := 0)).1 (callsIn_of_wp Tryz.func70 rfl trivial ?_)
  have s0 : ItSv J 21 [(0, .v (.func (.yield l) #[] #[])), (1, .v (.pointer (some ⟨b0, 0, none⟩))), (2, .v (.pointer (some ⟨b1, 0, none⟩)))] V [] { tmps := (⟨[Value.func (.yield l) #[] #[], Value.pointer (some ⟨b0, 0, none⟩), Value.pointer (some ⟨b1, 0, none⟩)]⟩ : Array Value) ++ Array.replicate (Tryz.f70.ntmps - (⟨[Value.func (.yield l) #[] #[], Value.pointer (some ⟨b0, 0, none⟩), Value.pointer (some ⟨b1, 0, none⟩)]⟩ : Array Value).size) undef, defers := [] } W :=
    ⟨rfl, by rw [Array.size_append, Array.size_replicate]; rfl, lok_args [Value.func (.yield l) #[] #[], Value.pointer (some ⟨b0, 0, none⟩), Value.pointer (some ⟨b1, 0, none⟩)] _, h0⟩
  refine wpIn_seq ?_
  refine s0.stretch (T := tyT) (fn := Tryz.f70) hJ (fun L' V' => ∃ (a10 : Option Addr) (k10 : Nat), L' = [(0, .v (.func (.yield l) #[] #[])), (10, .v (.slice a10 (xs.length) k10)), (11, .v (.int .i64 (((xs.length : Nat) : Int)))), (12, .v (.int .i64 0))] ∧ SlAt (cInt .i64) V' a10 k10 xs) ?_ ?_
  · refine Exec.run tyOk 400 rfl ?_
    refine Exec.draws tyOk [(0, true), (2, true), (6, true), (1, false), (3, false), (4, false), (5, false)] rfl (by kernel_rfl) ?_
    refine Exec.fld tyOk (x := .slice a4 ((x3).length) (k4)) rfl rfl rfl hc0 rfl rfl ?_
    refine Exec.run tyOk 400 rfl ?_
    refine Exec.fld tyOk (x := .slice a6 ((x5).length) (k6)) rfl rfl rfl hc1 rfl rfl ?_
    refine Exec.run tyOk 400 rfl ?_
    refine Exec.call rfl rfl (W_digest_Tree x3 h4 hy1) ?_
    rintro V2 _ hv2 ⟨a7, k7, rfl, h7⟩
    have h8 := SlAt.mono h6 hv2
    refine Exec.run tyOk 400 rfl ?_
    refine Exec.call rfl rfl (W_digest_Tree x5 h8 hy3) ?_
    rintro V3 _ hv3 ⟨a9, k9, rfl, h9⟩
    have h10 := SlAt.mono h7 hv3
    refine Exec.run tyOk 400 rfl ?_
    refine Exec.call rfl rfl (W_digest_Diff y1 y3 h10 h9 hF) ?_
    rintro V4 _ hv4 ⟨a10, k10, rfl, h11⟩
    refine Exec.run tyOk 400 rfl ?_
    exact Exec.round [(0, .v (.func (.yield l) #[] #[])), (10, .v (.slice a10 (xs.length) k10)), (11, .v (.int .i64 (((xs.length : Nat) : Int)))), (12, .v (.int .i64 0))] ⟨rfl, rfl, rfl, rfl, trivial⟩ ⟨rfl, _, _, rfl, h11⟩
  clear s0 h0
  rintro L' V1 a1 w1 ⟨a10, k10, rfl, h10⟩ hv1 s1
  show Code.wpIn _ _ _ _ _ _ _
  refine wpIn_block ?_
  refine wpIn_loop (fun a w => ∃ (i : Int) (pre r : List Int) (V : View), (0 ≤ i ∧ i ≤ (xs.length : Int)) ∧ SlAt (cInt .i64) V a10 k10 xs ∧ ItSv J 21 [(0, .v (.func (.yield l) #[] #[])), (10, .v (.slice a10 (xs.length) k10)), (11, .v (.int .i64 (((xs.length : Nat) : Int)))), (12, .v (.int .i64 i))] V pre a w ∧ xs = pre ++ r ∧ r = xs.drop i.toNat)
    (fun a _ => muS 12 xs.length a) ⟨0, [], xs, V1, ⟨Int.le_refl _, by omega⟩, h10, s1, rfl, by simp⟩ ?_
  clear s1 h10
  rintro a w ⟨i, pre, r, V2, hi, h10, s, hx, hr⟩
  rw [s.muS (s := 12) xs.length rfl]
  refine wpIn_seq ?_
  refine s.stretch (T := tyT) (fn := Tryz.f70) hJ (fun L' V' => L' = [(0, .v (.func (.yield l) #[] #[])), (10, .v (.slice a10 (xs.length) k10)), (11, .v (.int .i64 (((xs.length : Nat) : Int)))), (12, .v (.int .i64 i)), (13, .v (.bool (decide (i < (xs.length : Int)))))]) ?_ ?_
  · refine Exec.run tyOk 400 rfl ?_
    exact Exec.round [(0, .v (.func (.yield l) #[] #[])), (10, .v (.slice a10 (xs.length) k10)), (11, .v (.int .i64 (((xs.length : Nat) : Int)))), (12, .v (.int .i64 i)), (13, .v (.bool (decide (i < (xs.length : Int)))))] ⟨rfl, rfl, rfl, rfl, rfl, trivial⟩ ⟨rfl, rfl⟩
  clear s
  rintro L' V3 a3 w3 rfl hv3 s
  have h11 := SlAt.mono h10 hv3
  show Code.wpIn _ _ _ _ _ _ _
  refine wpIn_seq ?_
  refine wpIn_cond_split (s.eval (s := 13) rfl) (fun hc => ?_) (fun hc => ?_)
  case _ =>
    have hlt : i < (xs.length : Int) := by simpa using hc
    refine wpIn_skip ?_
    show Code.wpIn _ _ _ _ _ _ _
    rw [drop_atS xs i ⟨hi.1, hlt⟩] at hr
    subst hr
    obtain ⟨c14, hr14, hd14⟩ := SlAt.get h11 (n := i) ⟨hi.1, hlt⟩
    obtain rfl := hr14
    refine wpIn_seq ?_
    refine wpIn_block ?_
    refine wpIn_seq ?_
    refine s.stretch (T := tyT) (fn := Tryz.f70) hJ (fun L' V' => L' = [(0, .v (.func (.yield l) #[] #[])), (5, .v (.int .i64 (atI xs i))), (10, .v (.slice a10 (xs.length) k10)), (11, .v (.int .i64 (((xs.length : Nat) : Int)))), (12, .v (.int .i64 i))]) ?_ ?_
    · refine Exec.run tyOk 400 rfl ?_
      refine Exec.ia tyOk rfl rfl ⟨hi.1, hlt, hd14.some⟩ ?_
      refine Exec.run tyOk 400 rfl ?_
      refine Exec.ld tyOk (x := .int .i64 (atI xs i)) rfl rfl hd14 rfl rfl ?_
      refine Exec.run tyOk 400 rfl ?_
      exact Exec.round [(0, .v (.func (.yield l) #[] #[])), (5, .v (.int .i64 (atI xs i))), (10, .v (.slice a10 (xs.length) k10)), (11, .v (.int .i64 (((xs.length : Nat) : Int)))), (12, .v (.int .i64 i))] ⟨rfl, rfl, rfl, rfl, rfl, trivial⟩ ⟨rfl, rfl⟩
    clear s
    rintro L' V4 a4' w4 rfl hv4 s
    have h12 := SlAt.mono h11 hv4
    show Code.wpIn _ _ _ _ _ _ _
    refine wpIn_seq ?_
    refine s.head (T := tyT) (fn := Tryz.f70) hJ (fun L' V' => L' = [(0, .v (.func (.yield l) #[] #[])), (10, .v (.slice a10 (xs.length) k10)), (11, .v (.int .i64 (((xs.length : Nat) : Int)))), (12, .v (.int .i64 i)), (16, .v (.func (.yield l) #[] #[])), (17, .v (.int .i64 (atI xs i)))]) (ops := [_, _]) (rest := [_, _]) ?_ rfl ?_
    · refine Exec.run tyOk 400 rfl ?_
      exact Exec.round [(0, .v (.func (.yield l) #[] #[])), (10, .v (.slice a10 (xs.length) k10)), (11, .v (.int .i64 (((xs.length : Nat) : Int)))), (12, .v (.int .i64 i)), (16, .v (.func (.yield l) #[] #[])), (17, .v (.int .i64 (atI xs i)))] ⟨rfl, rfl, rfl, rfl, rfl, rfl, trivial⟩ ⟨rfl, rfl⟩
    clear s
    rintro L' V7 a7 w7 rfl hv7 s
    have h13 := SlAt.mono h12 hv7
    refine s.yield (l := l) (x := atI xs i) (d := 18) (g := 16) (ar := 17) rfl rfl rfl (by decide) rfl rfl (hY pre (atI xs i) (xs.drop (i + 1).toNat) V7 w7 hx s.j) ?_
    clear s
    intro V8 a8 w8 hv8 s
    have h14 := SlAt.mono h13 hv8
    refine s.ops (T := tyT) (fn := Tryz.f70) hJ (fun L' V' => L' = [(0, .v (.func (.yield l) #[] #[])), (10, .v (.slice a10 (xs.length) k10)), (11, .v (.int .i64 (((xs.length : Nat) : Int)))), (12, .v (.int .i64 i)), (19, .v (.bool false))]) ?_ ?_
    · refine Exec.run tyOk 400 rfl ?_
      exact Exec.round [(0, .v (.func (.yield l) #[] #[])), (10, .v (.slice a10 (xs.length) k10)), (11, .v (.int .i64 (((xs.length : Nat) : Int)))), (12, .v (.int .i64 i)), (19, .v (.bool false))] ⟨rfl, rfl, rfl, rfl, rfl, trivial⟩ ⟨rfl, rfl⟩
    clear s
    rintro L' V9 a9 w9 rfl hv9 s
    have h15 := SlAt.mono h14 hv9
    show Code.wpIn _ _ _ _ _ _ _
    refine wpIn_cond_false (s.eval (s := 19) rfl) ?_
    refine wpIn_skip ?_
    show Code.wpIn _ _ _ _ _ _ _
    refine s.stretch (T := tyT) (fn := Tryz.f70) hJ (fun L' V' => L' = [(0, .v (.func (.yield l) #[] #[])), (10, .v (.slice a10 (xs.length) k10)), (11, .v (.int .i64 (((xs.length : Nat) : Int)))), (12, .v (.int .i64 (IntKind.i64.wrap (i + (1 : Int)))))]) ?_ ?_
    · refine Exec.run tyOk 400 rfl ?_
      exact Exec.round [(0, .v (.func (.yield l) #[] #[])), (10, .v (.slice a10 (xs.length) k10)), (11, .v (.int .i64 (((xs.length : Nat) : Int)))), (12, .v (.int .i64 (IntKind.i64.wrap (i + (1 : Int)))))] ⟨rfl, rfl, rfl, rfl, trivial⟩ ⟨rfl, rfl⟩
    clear s
    rintro L' V10 a10' w10 rfl hv10 s
    have h16 := SlAt.mono h15 hv10
    have hw : IntKind.i64.wrap (i + (1 : Int)) = i + 1 := w64 (by omega) (by omega)
    rw [hw] at s
    refine ⟨⟨i + 1, pre ++ [atI xs i], xs.drop (i + 1).toNat, V10, ⟨by omega, by omega⟩, h16, s, ?_, rfl⟩, ?_⟩
    · rw [List.append_assoc]; exact hx
    · rw [s.muS (s := 12) xs.length rfl]
      omega
  case _ =>
    have hge : (xs.length : Int) ≤ i := by simpa using hc
    refine wpIn_exit ?_
    have he : i.toNat = xs.length := by omega
    rw [he, List.drop_length] at hr
    subst hr
    rw [List.append_nil] at hx
    subst hx
    show bodyPost Tryz.prog Tryz.f70 (fun e W' => (∃ v, e = .returned v) ∧ ∃ V', J _ V' W') .normal _ _
    exact bodyPost_end (v := .tuple #[]) (by simp [results, show Tryz.f70.results = #[] from rfl]) s.df ⟨⟨_, rfl⟩, _, s.j⟩

set_option maxRecDepth 100000 in
theorem X_suspects {V : View} (x1 : List TPair) (x3 : List TPair) {a2 : Option Addr} {k2 : Nat} {a4 : Option Addr} {k4 : Nat} (h2 : SlAt cTPair V a2 k2 x1) (h4 : SlAt cTPair V a4 k4 x3) {xs : List Int} (hF : suspF x1 x3 = some xs) (hm : xs.length < 9223372036854775807) :
    Spec Tryz.prog 37 [.slice a2 ((x1).length) (k2), .slice a4 ((x3).length) (k4)] V (fun V' v => SeqVAt Tryz.prog V' v xs) := by
  refine Spec.enter (T := tyT) Tryz.func37 rfl (by kernel_rfl) rfl rfl rfl ?_
  refine Exec.run tyOk 400 rfl ?_
  refine Exec.openB 0 rfl rfl rfl rfl (fun _ => rfl) (fun _ => rfl) (fun V4 b4 hv4 hd4 => ?_)
  have h5 := SlAt.mono h2 hv4
  have h6 := SlAt.mono h4 hv4
  refine Exec.openB 1 rfl rfl rfl rfl (fun _ => rfl) (fun _ => rfl) (fun V5 b5 hv5 hd5 => ?_)
  have h7 := SlAt.mono h5 hv5
  have h8 := SlAt.mono h6 hv5
  have hd6 := RdAt.mono hd4 hv5
  refine Exec.mkf rfl rfl ?_
  refine Exec.run tyOk 400 rfl ?_
  refine Exec.ret tyOk rfl rfl ⟨_, _, rfl, fun args w => ?_, X_suspects1 x1 x3 h7 hd6 h8 hd5 hF hm⟩
  exact enters_of Tryz.func70 (by kernel_rfl) rfl args w

/-- The keys of pairs, each with its bucket. -/
def bktAll : List TPair → Option (List (Str × Int))
  | [] => some []
  | x :: l => bnd (F_digest_Bucket x.Key) fun y => bnd (bktAll l) fun r => some ((x.Key, y) :: r)
def selB (q : List (Str × Int)) (n : Int) : List Str := (q.filter fun z => z.2 == n).map fun z => z.1

theorem bktAll_at : ∀ {l : List TPair} {q : List (Str × Int)} {i : Nat}, bktAll l = some q → ∀ x, l[i]? = some x → ∃ y, q[i]? = some (x.Key, y) ∧ F_digest_Bucket x.Key = some y
  | [], q, i, h, x, hx => by simp at hx
  | a :: l, q, i, h, x, hx => by
    simp only [bktAll] at h
    obtain ⟨y, hy, h⟩ := bnd_some h
    obtain ⟨r, hr, h⟩ := bnd_some h
    obtain rfl := some_inj h
    cases i with
    | zero => simp at hx; subst hx; exact ⟨y, rfl, hy⟩
    | succ i => exact bktAll_at hr x (by simpa using hx)

theorem bktAll_len : ∀ {l : List TPair} {q : List (Str × Int)}, bktAll l = some q → q.length = l.length
  | [], q, h => by obtain rfl := some_inj h; rfl
  | a :: l, q, h => by
    simp only [bktAll] at h
    obtain ⟨y, hy, h⟩ := bnd_some h
    obtain ⟨r, hr, h⟩ := bnd_some h
    obtain rfl := some_inj h
    simp [bktAll_len hr]

theorem selB_len (q : List (Str × Int)) (n : Int) : (selB q n).length ≤ q.length := by
  simp only [selB, List.length_map]; exact List.length_filter_le _ _

theorem flatB_len (q : List (Str × Int)) : ∀ xs : List Int, (xs.flatMap (selB q)).length ≤ xs.length * q.length
  | [] => by simp
  | x :: xs => by
    have h1 := flatB_len q xs
    have h2 := selB_len q x
    rw [List.flatMap_cons, List.length_append, List.length_cons, Nat.add_mul, Nat.one_mul]
    omega

theorem selB_snoc {q : List (Str × Int)} {i : Nat} {z : Str × Int} (h : q[i]? = some z) (n : Int) : selB (q.take (i + 1)) n = selB (q.take i) n ++ (if (z.2 == n) = true then [z.1] else []) := by
  obtain ⟨hi, hz⟩ := List.getElem?_eq_some_iff.1 h
  rw [List.take_succ_eq_append_getElem hi, selB, List.filter_append, List.map_append, hz]
  congr 1
  by_cases e : (z.2 == n) = true
  · simp [e]
  · simp [e]

def F_verify_Compare (x1 : List TPair) (x3 : List TPair) : Option (List Str × Int) :=
  bnd (F_state_Diff x1 x3) fun d => cond (d.2 != (0 : Int)) (some ([], 1)) (bnd (suspF x1 x3) fun xs => bnd (bktAll d.1) fun q =>
    req (xs.length < 9223372036854775807 ∧ q.length < 9223372036854775807 ∧ xs.length * q.length * 16 ≤ 140737488355328) (some (sortS (xs.flatMap (selB q)), 0)))

set_option maxRecDepth 100000 in
theorem W_verify_Compare {V : View} (x1 : List TPair) (x3 : List TPair) {a2 : Option Addr} {k2 : Nat} {a4 : Option Addr} {k4 : Nat} (h2 : SlAt cTPair V a2 k2 x1) (h4 : SlAt cTPair V a4 k4 x3) {r : List Str × Int} (hF : F_verify_Compare x1 x3 = some r) :
    Spec Tryz.prog 18 [.slice a2 ((x1).length) (k2), .slice a4 ((x3).length) (k4)] V (fun V' v => ∃ (a22 : Option Addr) (k22 : Nat), v = .tuple ⟨[.slice a22 ((r.1).length) (k22), .int .i64 (r.2)]⟩ ∧ SlAt cStr V' a22 k22 r.1) := by
  unfold F_verify_Compare at hF
  obtain ⟨d, hd, hF⟩ := bnd_some hF
  refine Spec.enterF Tryz.func18 rfl (by kernel_rfl) rfl rfl rfl (fun w a s => ?_)
  refine wpIn_seq ?_
  refine s.region (ro := none) (T := tyT) (fn := Tryz.f18) (fun L' V' M' => L' = [(0, .v (.slice a2 ((x1).length) (k2))), (1, .v (.slice a4 ((x3).length) (k4)))] ∧ M' = [] ∧ VLe V V') ?_ rfl ?_
  · refine Exec.run tyOk 400 rfl ?_
    exact Exec.round [(0, .v (.slice a2 ((x1).length) (k2))), (1, .v (.slice a4 ((x3).length) (k4)))] ⟨rfl, rfl, trivial⟩ ⟨rfl, rfl, VLe.refl V⟩
  clear s a
  rintro L' V1 M' a1 w1 ⟨rfl, rfl, hv1⟩ s
  have h5 := SlAt.mono h2 hv1
  have h6 := SlAt.mono h4 hv1
  show Code.wpIn _ _ _ _ _ _ _
  refine wpIn_seq ?_
  refine s.region (ro := none) (T := tyT) (fn := Tryz.f18) (fun L' V' M' => ∃ (b6 : Nat) (a6 : Option Addr) (k6 : Nat), L' = [(0, .v (.slice a2 ((x1).length) (k2))), (1, .v (.slice a4 ((x3).length) (k4))), (6, .v (.pointer (some ⟨b6, 0, none⟩))), (7, .v (.int .i64 d.2))] ∧ M' = [.row (.slice (some ⟨b6, 0, none⟩) 1 1) [.slice a6 (d.1.length) k6] 24 1] ∧ VLe V1 V' ∧ SlAt cTPair V' a6 k6 d.1) ?_ rfl ?_
  · refine Exec.run tyOk 400 rfl ?_
    refine Exec.call rfl rfl (W_state_Diff x1 x3 h5 h6 hd) ?_
    rintro V2 _ hv2 ⟨a6, k6, rfl, h7⟩
    refine Exec.run tyOk 400 rfl ?_
    refine Exec.fixA 0 (n := 1) (sz := 1) rfl rfl rfl rfl rfl (fun _ => rfl) (fun _ => rfl) (fun b6 => ?_)
    exact Exec.round [(0, .v (.slice a2 ((x1).length) (k2))), (1, .v (.slice a4 ((x3).length) (k4))), (6, .v (.pointer (some ⟨b6, 0, none⟩))), (7, .v (.int .i64 d.2))] ⟨rfl, rfl, rfl, rfl, trivial⟩ ⟨b6, a6, k6, rfl, rfl, hv2, h7⟩
  clear s a1
  rintro L' V2 M' a2' w2 ⟨b6, a6, k6, rfl, rfl, hv2, h7⟩ s
  have h8 := SlAt.mono h5 hv2
  have h9 := SlAt.mono h6 hv2
  show Code.wpIn _ _ _ _ _ _ _
  refine wpIn_seq ?_
  refine wpIn_seq ?_
  refine s.region (ro := none) (T := tyT) (fn := Tryz.f18) (fun L' V' M' => L' = [(0, .v (.slice a2 ((x1).length) (k2))), (1, .v (.slice a4 ((x3).length) (k4))), (6, .v (.pointer (some ⟨b6, 0, none⟩))), (19, .v (.bool (d.2 != (0 : Int))))] ∧ M' = [.row (.slice (some ⟨b6, 0, none⟩) 1 1) [.slice a6 (d.1.length) k6] 24 1] ∧ VLe V2 V') ?_ rfl ?_
  · refine Exec.run tyOk 400 rfl ?_
    exact Exec.round [(0, .v (.slice a2 ((x1).length) (k2))), (1, .v (.slice a4 ((x3).length) (k4))), (6, .v (.pointer (some ⟨b6, 0, none⟩))), (19, .v (.bool (d.2 != (0 : Int))))] ⟨rfl, rfl, rfl, rfl, trivial⟩ ⟨rfl, rfl, VLe.refl _⟩
  clear s a2'
  rintro L' V3 M' a3 w3 ⟨rfl, rfl, hv3⟩ s
  have h10 := SlAt.mono h7 hv3
  have h11 := SlAt.mono h8 hv3
  have h12 := SlAt.mono h9 hv3
  show Code.wpIn _ _ _ _ _ _ _
  rcases cond_some hF with ⟨hb, hF⟩ | ⟨hb, hF⟩
  case _ =>
    refine wpIn_cond_true (by rw [s.eval (s := 19) rfl, hb]) ?_
    refine wpIn_seq ?_
    obtain rfl := some_inj hF
    refine s.region (ro := none) (T := tyT) (fn := Tryz.f18) (fun L' V' M' => L' = [(4, .v (.slice none 0 0)), (5, .v (.int .i64 1))] ∧ M' = [.row (.slice (some ⟨b6, 0, none⟩) 1 1) [.slice a6 (d.1.length) k6] 24 1]) ?_ rfl ?_
    · refine Exec.run tyOk 400 rfl ?_
      exact Exec.round [(4, .v (.slice none 0 0)), (5, .v (.int .i64 1))] ⟨rfl, rfl, trivial⟩ ⟨rfl, rfl⟩
    clear s a3
    rintro L' V4 M' a4' w4 ⟨rfl, rfl⟩ s
    show Code.wpIn _ _ _ _ _ _ _
    refine wpIn_ret ?_
    exact s.leaves0 (T := tyT) tyOk rfl rfl (fun env hW => ⟨_, env, V4, _, rfl, hW, _, _, rfl, SlAt.nil⟩)
  refine wpIn_cond_false (by rw [s.eval (s := 19) rfl, hb]) ?_
  refine wpIn_skip ?_
  show Code.wpIn _ _ _ _ _ _ _
  obtain ⟨xs, hxs, hF⟩ := bnd_some hF
  obtain ⟨q, hq, hF⟩ := bnd_some hF
  obtain ⟨⟨hm1, hm2, hm3⟩, hF⟩ := req_some hF
  obtain rfl := some_inj hF
  have hql := bktAll_len hq
  refine wpIn_seq ?_
  refine s.region (ro := none) (T := tyT) (fn := Tryz.f18) (fun L' V' M' => ∃ (b8 : Nat), L' = [(0, .v (.slice a2 ((x1).length) (k2))), (1, .v (.slice a4 ((x3).length) (k4))), (6, .v (.pointer (some ⟨b6, 0, none⟩))), (8, .v (.pointer (some ⟨b8, 0, none⟩)))] ∧ M' = [.row (.slice (some ⟨b6, 0, none⟩) 1 1) [.slice a6 (d.1.length) k6] 24 1, .row (.slice (some ⟨b8, 0, none⟩) 1 1) [.slice none 0 0] 32 1, .row (.slice none 0 0) [] 9 1] ∧ VLe V3 V') ?_ rfl ?_
  · refine Exec.run tyOk 400 rfl ?_
    refine Exec.fixA 1 (n := 1) (sz := 1) rfl rfl rfl rfl rfl (fun _ => rfl) (fun _ => rfl) (fun b8 => ?_)
    refine Exec.row0 9 1 rfl ?_
    exact Exec.round [(0, .v (.slice a2 ((x1).length) (k2))), (1, .v (.slice a4 ((x3).length) (k4))), (6, .v (.pointer (some ⟨b6, 0, none⟩))), (8, .v (.pointer (some ⟨b8, 0, none⟩)))] ⟨rfl, rfl, rfl, rfl, trivial⟩ ⟨b8, rfl, rfl, VLe.refl _⟩
  clear s a3
  rintro L' V4 M' a4' w4 ⟨b8, rfl, rfl, hv4⟩ s
  have h13 := SlAt.mono h10 hv4
  have h14 := SlAt.mono h11 hv4
  have h15 := SlAt.mono h12 hv4
  show Code.wpIn _ _ _ _ _ _ _
  refine wpIn_seq ?_
  refine wpIn_seq ?_
  refine s.region (ro := none) (T := tyT) (fn := Tryz.f18) (fun L' V' M' => ∃ (v22 : Value), L' = [(6, .v (.pointer (some ⟨b6, 0, none⟩))), (8, .v (.pointer (some ⟨b8, 0, none⟩))), (22, .v v22)] ∧ M' = [.row (.slice (some ⟨b6, 0, none⟩) 1 1) [.slice a6 (d.1.length) k6] 24 1, .row (.slice (some ⟨b8, 0, none⟩) 1 1) [.slice none 0 0] 32 1, .row (.slice none 0 0) [] 9 1] ∧ VLe V4 V' ∧ SeqVAt Tryz.prog V' v22 xs) ?_ rfl ?_
  · refine Exec.run tyOk 400 rfl ?_
    refine Exec.call rfl rfl (X_suspects x1 x3 h14 h15 hxs hm1) ?_
    rintro V5 v22 hv5 hsq
    refine Exec.run tyOk 400 rfl ?_
    exact Exec.round [(6, .v (.pointer (some ⟨b6, 0, none⟩))), (8, .v (.pointer (some ⟨b8, 0, none⟩))), (22, .v v22)] ⟨rfl, rfl, rfl, trivial⟩ ⟨v22, rfl, rfl, hv5, hsq⟩
  clear s a4'
  rintro L' V5 M' a5 w5 ⟨v22, rfl, rfl, hv5, hsq⟩ s
  have h16 := SlAt.mono h13 hv5
  show Code.wpIn _ _ _ _ _ _ _
  refine wpIn_block ?_
  have s2 := s.weaken (L' := [(6, .v (.pointer (some ⟨b6, 0, none⟩))), (8, .v (.pointer (some ⟨b8, 0, none⟩)))]) ⟨rfl, rfl, trivial⟩
  refine s2.rangeF (xs := xs) (L2 := fun x => [(6, .v (.pointer (some ⟨b6, 0, none⟩))), (8, .v (.pointer (some ⟨b8, 0, none⟩))), (9, .v (.int .i64 x))]) (s.eval (s := 22) rfl) hsq rfl (by decide)
    (fun pre V' M' => ∃ (l : List Str) (al : Option Addr) (kl : Nat) (cs : List Value), M' = [.row (.slice (some ⟨b6, 0, none⟩) 1 1) [.slice a6 (d.1.length) k6] 24 1, .row (.slice (some ⟨b8, 0, none⟩) 1 1) [.slice al l.length kl] 32 1, .row (.slice al l.length kl) cs 9 1] ∧ RowRep cStr V' l cs ∧ l = pre.flatMap (selB q) ∧ SlAt cTPair V' a6 k6 d.1)
    (fun pre V V' M' hv ⟨l, al, kl, cs, e1, e2, e3, e4⟩ => ⟨l, al, kl, cs, e1, RowRep.mono hv e2, e3, SlAt.mono e4 hv⟩)
    ⟨[], none, 0, [], rfl, RowRep.nil, rfl, h16⟩ ?_ ?_ ?_
  · -- the assignment
    intro l FR1 x V6 M6 a6' w6 K s6 hK
    refine s6.region (ro := some l) (T := tyT) (fn := Tryz.f18) (fun L' V' M' => L' = [(6, .v (.pointer (some ⟨b6, 0, none⟩))), (8, .v (.pointer (some ⟨b8, 0, none⟩))), (9, .v (.int .i64 x))] ∧ V' = V6 ∧ M' = M6) ?_ rfl ?_
    · refine Exec.run tyOk 400 rfl ?_
      exact Exec.round [(6, .v (.pointer (some ⟨b6, 0, none⟩))), (8, .v (.pointer (some ⟨b8, 0, none⟩))), (9, .v (.int .i64 x))] ⟨rfl, rfl, rfl, trivial⟩ ⟨rfl, rfl, rfl⟩
    rintro L' V' M' a7 w7 ⟨rfl, rfl, rfl⟩ s7
    exact hK _ _ s7
  · -- a round
    rintro l FR1 pre x rest V6 M6 a6' w6 Q1 hx ⟨ls, al, kl, cs, rfl, hr6, hls, h17⟩ s6 hQ
    refine wpIn_block ?_
    refine wpIn_seq ?_
    refine s6.region (ro := some l) (T := tyT) (fn := Tryz.f18) (fun L' V' M' => L' = [(8, .v (.pointer (some ⟨b8, 0, none⟩))), (9, .v (.int .i64 x)), (24, .v (.slice a6 (d.1.length) k6)), (25, .v (.int .i64 ((d.1.length : Nat) : Int))), (26, .v (.int .i64 0))] ∧ V' = V6 ∧ M' = [.row (.slice (some ⟨b6, 0, none⟩) 1 1) [.slice a6 (d.1.length) k6] 24 1, .row (.slice (some ⟨b8, 0, none⟩) 1 1) [.slice al ls.length kl] 32 1, .row (.slice al ls.length kl) cs 9 1]) ?_ rfl ?_
    · refine Exec.run tyOk 400 rfl ?_
      refine Exec.ldP tyOk 0 (l := [.slice a6 (d.1.length) k6]) rfl rfl rfl (by intro j v hj; simpa using hj) rfl rfl ?_
      refine Exec.run tyOk 400 rfl ?_
      exact Exec.round [(8, .v (.pointer (some ⟨b8, 0, none⟩))), (9, .v (.int .i64 x)), (24, .v (.slice a6 (d.1.length) k6)), (25, .v (.int .i64 ((d.1.length : Nat) : Int))), (26, .v (.int .i64 0))] ⟨rfl, rfl, rfl, rfl, rfl, trivial⟩ ⟨rfl, rfl, rfl⟩
    clear s6
    rintro L' V' M' a7 w7 ⟨rfl, rfl, rfl⟩ s7
    show Code.wpIn _ _ _ _ _ _ _
    refine wpIn_block ?_
    refine wpIn_loop (fun a w => ∃ (i : Int) (l1 : List Str) (al : Option Addr) (kl : Nat) (cs : List Value) (V7 : View), (0 ≤ i ∧ i ≤ (d.1.length : Int)) ∧ VLe V' V7 ∧ RSt 44 V FR1 [] [(8, .v (.pointer (some ⟨b8, 0, none⟩))), (9, .v (.int .i64 x)), (24, .v (.slice a6 (d.1.length) k6)), (25, .v (.int .i64 ((d.1.length : Nat) : Int))), (26, .v (.int .i64 i))] V7 [.row (.slice (some ⟨b6, 0, none⟩) 1 1) [.slice a6 (d.1.length) k6] 24 1, .row (.slice (some ⟨b8, 0, none⟩) 1 1) [.slice al l1.length kl] 32 1, .row (.slice al l1.length kl) cs 9 1] a w ∧ RowRep cStr V7 l1 cs ∧ l1 = ls ++ selB (q.take i.toNat) x)
      (fun a _ => muS 26 d.1.length a) ⟨0, ls, al, kl, cs, V', ⟨Int.le_refl _, by omega⟩, VLe.refl _, s7, hr6, by simp [selB]⟩ ?_
    clear s7 hr6
    rintro a w ⟨i, l1, al, kl, cs, V7, hi, hv7, s8, hr7, hl1⟩
    have h18 := SlAt.mono h17 hv7
    rw [s8.muS (s := 26) d.1.length rfl]
    refine wpIn_seq ?_
    refine s8.region (ro := some l) (T := tyT) (fn := Tryz.f18) (fun L' V' M' => L' = [(8, .v (.pointer (some ⟨b8, 0, none⟩))), (9, .v (.int .i64 x)), (24, .v (.slice a6 (d.1.length) k6)), (25, .v (.int .i64 ((d.1.length : Nat) : Int))), (26, .v (.int .i64 i)), (27, .v (.bool (decide (i < (d.1.length : Int)))))] ∧ V' = V7 ∧ M' = [.row (.slice (some ⟨b6, 0, none⟩) 1 1) [.slice a6 (d.1.length) k6] 24 1, .row (.slice (some ⟨b8, 0, none⟩) 1 1) [.slice al l1.length kl] 32 1, .row (.slice al l1.length kl) cs 9 1]) ?_ rfl ?_
    · refine Exec.run tyOk 400 rfl ?_
      exact Exec.round [(8, .v (.pointer (some ⟨b8, 0, none⟩))), (9, .v (.int .i64 x)), (24, .v (.slice a6 (d.1.length) k6)), (25, .v (.int .i64 ((d.1.length : Nat) : Int))), (26, .v (.int .i64 i)), (27, .v (.bool (decide (i < (d.1.length : Int)))))] ⟨rfl, rfl, rfl, rfl, rfl, rfl, trivial⟩ ⟨rfl, rfl, rfl⟩
    clear s8
    rintro L' V8 M' a8 w8 ⟨rfl, rfl, rfl⟩ s8
    show Code.wpIn _ _ _ _ _ _ _
    refine wpIn_seq ?_
    refine wpIn_cond_split (s8.eval (s := 27) rfl) (fun hc => ?_) (fun hc => ?_)
    case _ =>
      have hlt : i < (d.1.length : Int) := by simpa using hc
      refine wpIn_skip ?_
      show Code.wpIn _ _ _ _ _ _ _
      obtain ⟨c28, hr28, hd28⟩ := SlAt.get h18 (n := i) ⟨hi.1, hlt⟩
      obtain rfl := hr28
      have hil : i.toNat < d.1.length := by omega
      obtain ⟨y, hy1, hy2⟩ := bktAll_at (i := i.toNat) hq (atI d.1 i) (by rw [List.getElem?_eq_getElem hil]; congr 1; simp [atI, List.getD_eq_getElem?_getD, hil])
      have hsel := selB_snoc hy1 x
      have hw : IntKind.i64.wrap (i + (1 : Int)) = i + 1 := w64 (by omega) (by omega)
      have ht1 : (i + 1).toNat = i.toNat + 1 := by omega
      refine wpIn_seq_k (fun K hK => ?_)
      -- the step to the next pair
      have step : ∀ (l2 : List Str) (al : Option Addr) (kl : Nat) (cs : List Value) (V11 : View) (a11 : Act) (w11 : World), VLe V8 V11 → RSt 44 V FR1 [] [(8, .v (.pointer (some ⟨b8, 0, none⟩))), (9, .v (.int .i64 x)), (24, .v (.slice a6 (d.1.length) k6)), (25, .v (.int .i64 ((d.1.length : Nat) : Int))), (26, .v (.int .i64 i))] V11 [.row (.slice (some ⟨b6, 0, none⟩) 1 1) [.slice a6 (d.1.length) k6] 24 1, .row (.slice (some ⟨b8, 0, none⟩) 1 1) [.slice al l2.length kl] 32 1, .row (.slice al l2.length kl) cs 9 1] a11 w11 → RowRep cStr V11 l2 cs → l2 = ls ++ selB (q.take (i.toNat + 1)) x → K a11 w11 := by
        intro l2 al kl cs V11 a11 w11 hv11 s11 hr11 hl2
        refine hK _ _ ?_
        refine s11.region (ro := some l) (T := tyT) (fn := Tryz.f18) (fun L' V' M' => L' = [(8, .v (.pointer (some ⟨b8, 0, none⟩))), (9, .v (.int .i64 x)), (24, .v (.slice a6 (d.1.length) k6)), (25, .v (.int .i64 ((d.1.length : Nat) : Int))), (26, .v (.int .i64 (IntKind.i64.wrap (i + (1 : Int)))))] ∧ V' = V11 ∧ M' = [.row (.slice (some ⟨b6, 0, none⟩) 1 1) [.slice a6 (d.1.length) k6] 24 1, .row (.slice (some ⟨b8, 0, none⟩) 1 1) [.slice al l2.length kl] 32 1, .row (.slice al l2.length kl) cs 9 1]) ?_ rfl ?_
        · refine Exec.run tyOk 400 rfl ?_
          exact Exec.round [(8, .v (.pointer (some ⟨b8, 0, none⟩))), (9, .v (.int .i64 x)), (24, .v (.slice a6 (d.1.length) k6)), (25, .v (.int .i64 ((d.1.length : Nat) : Int))), (26, .v (.int .i64 (IntKind.i64.wrap (i + (1 : Int)))))] ⟨rfl, rfl, rfl, rfl, rfl, trivial⟩ ⟨rfl, rfl, rfl⟩
        rintro L' V12 M' a12 w12 ⟨rfl, rfl, rfl⟩ s12
        rw [hw] at s12
        refine ⟨⟨i + 1, l2, al, kl, cs, V12, ⟨by omega, by omega⟩, hv7.trans hv11, s12, hr11, by rw [hl2, ht1]⟩, ?_⟩
        rw [s12.muS (s := 26) d.1.length rfl]
        omega
      refine wpIn_block ?_
      refine wpIn_seq ?_
      refine s8.region (ro := some l) (T := tyT) (fn := Tryz.f18) (fun L' V' M' => L' = [(8, .v (.pointer (some ⟨b8, 0, none⟩))), (9, .v (.int .i64 x)), (11, .ptr 3 0), (24, .v (.slice a6 (d.1.length) k6)), (25, .v (.int .i64 ((d.1.length : Nat) : Int))), (26, .v (.int .i64 i))] ∧ V' = V8 ∧ M' = [.row (.slice (some ⟨b6, 0, none⟩) 1 1) [.slice a6 (d.1.length) k6] 24 1, .row (.slice (some ⟨b8, 0, none⟩) 1 1) [.slice al l1.length kl] 32 1, .row (.slice al l1.length kl) cs 9 1, .blk [.v (.string ⟨⟨(atI d.1 i).Key⟩⟩), .v (.int .i64 ((atI d.1 i).Val.Kind)), .v (.int .i64 ((atI d.1 i).Val.N)), .v (.string ⟨⟨(atI d.1 i).Val.S⟩⟩)] 55]) ?_ rfl ?_
      · refine Exec.run tyOk 400 rfl ?_
        refine Exec.ia tyOk rfl rfl ⟨hi.1, hlt, hd28.some⟩ ?_
        refine Exec.run tyOk 400 rfl ?_
        refine Exec.ld tyOk (x := .agg ⟨[.string ⟨⟨(atI d.1 i).Key⟩⟩, .int .i64 ((atI d.1 i).Val.Kind), .int .i64 ((atI d.1 i).Val.N), .string ⟨⟨(atI d.1 i).Val.S⟩⟩]⟩) rfl rfl hd28 rfl rfl ?_
        refine Exec.run tyOk 400 rfl ?_
        exact Exec.round [(8, .v (.pointer (some ⟨b8, 0, none⟩))), (9, .v (.int .i64 x)), (11, .ptr 3 0), (24, .v (.slice a6 (d.1.length) k6)), (25, .v (.int .i64 ((d.1.length : Nat) : Int))), (26, .v (.int .i64 i))] ⟨rfl, rfl, rfl, rfl, rfl, rfl, trivial⟩ ⟨rfl, rfl, rfl⟩
      clear s8
      rintro L' V9 M' a9 w9 ⟨rfl, rfl, rfl⟩ s9
      show Code.wpIn _ _ _ _ _ _ _
      refine wpIn_seq ?_
      refine s9.region (ro := some l) (T := tyT) (fn := Tryz.f18) (fun L' V' M' => L' = [(8, .v (.pointer (some ⟨b8, 0, none⟩))), (9, .v (.int .i64 x)), (11, .ptr 3 0), (24, .v (.slice a6 (d.1.length) k6)), (25, .v (.int .i64 ((d.1.length : Nat) : Int))), (26, .v (.int .i64 i)), (34, .v (.bool (y == x)))] ∧ V' = V9 ∧ M' = [.row (.slice (some ⟨b6, 0, none⟩) 1 1) [.slice a6 (d.1.length) k6] 24 1, .row (.slice (some ⟨b8, 0, none⟩) 1 1) [.slice al l1.length kl] 32 1, .row (.slice al l1.length kl) cs 9 1, .blk [.v (.string ⟨⟨(atI d.1 i).Key⟩⟩), .v (.int .i64 ((atI d.1 i).Val.Kind)), .v (.int .i64 ((atI d.1 i).Val.N)), .v (.string ⟨⟨(atI d.1 i).Val.S⟩⟩)] 55]) ?_ rfl ?_
      · refine Exec.run tyOk 400 rfl ?_
        refine Exec.callS (.int .i64 (y)) rfl rfl (W_digest_Bucket (atI d.1 i).Key hy2) ?_
        refine Exec.run tyOk 400 rfl ?_
        exact Exec.round [(8, .v (.pointer (some ⟨b8, 0, none⟩))), (9, .v (.int .i64 x)), (11, .ptr 3 0), (24, .v (.slice a6 (d.1.length) k6)), (25, .v (.int .i64 ((d.1.length : Nat) : Int))), (26, .v (.int .i64 i)), (34, .v (.bool (y == x)))] ⟨rfl, rfl, rfl, rfl, rfl, rfl, rfl, trivial⟩ ⟨rfl, rfl, rfl⟩
      clear s9
      rintro L' V10 M' a10 w10 ⟨rfl, rfl, rfl⟩ s10
      show Code.wpIn _ _ _ _ _ _ _
      refine wpIn_cond_split (s10.eval (s := 34) rfl) (fun hc => ?_) (fun hc => ?_)
      case _ =>
        have hl2 : (l1 ++ [(atI d.1 i).Key]) = ls ++ selB (q.take (i.toNat + 1)) x := by
          rw [hsel, if_pos hc, hl1, List.append_assoc]
        have hq2 : (l1 ++ [(atI d.1 i).Key]).length * 16 ≤ 140737488355328 := by
          have e1 := flatB_len q pre
          have e2 := selB_len (q.take (i.toNat + 1)) x
          have e3 : (q.take (i.toNat + 1)).length ≤ q.length := by rw [List.length_take]; exact Nat.min_le_right _ _
          have e4 : (pre.length + 1) * q.length ≤ xs.length * q.length := Nat.mul_le_mul_right _ (by rw [hx]; simp)
          rw [Nat.add_mul, Nat.one_mul] at e4
          have e5 := congrArg List.length hl2
          have e6 : (ls ++ selB (q.take (i.toNat + 1)) x).length = ls.length + (selB (q.take (i.toNat + 1)) x).length := List.length_append
          have e7 := congrArg List.length hls
          rw [e6] at e5
          omega
        refine s10.region (ro := some l) (T := tyT) (fn := Tryz.f18) (fun L' V' M' => ∃ (al2 : Option Addr) (kl2 : Nat), L' = [(8, .v (.pointer (some ⟨b8, 0, none⟩))), (9, .v (.int .i64 x)), (24, .v (.slice a6 (d.1.length) k6)), (25, .v (.int .i64 ((d.1.length : Nat) : Int))), (26, .v (.int .i64 i))] ∧ V' = V10 ∧ M' = [.row (.slice (some ⟨b6, 0, none⟩) 1 1) [.slice a6 (d.1.length) k6] 24 1, .row (.slice (some ⟨b8, 0, none⟩) 1 1) [.slice al2 (l1 ++ [(atI d.1 i).Key]).length kl2] 32 1, .row (.slice al2 (l1 ++ [(atI d.1 i).Key]).length kl2) (cs ++ [.string ⟨⟨(atI d.1 i).Key⟩⟩]) 9 1]) ?_ rfl ?_
        · refine Exec.run tyOk 400 rfl ?_
          refine Exec.ldP tyOk 1 (l := [.slice al l1.length kl]) rfl rfl rfl (by intro j v hj; simpa using hj) rfl rfl ?_
          refine Exec.run tyOk 400 rfl ?_
          refine Exec.bsl tyOk rfl rfl ?_
          refine Exec.run tyOk 400 rfl ?_
          refine Exec.app tyOk 2 4 (nm := (l1 ++ [(atI d.1 i).Key]).length) rfl rfl rfl rfl rfl rfl rfl rfl rfl (by simp) (fun _ _ => rfl) rfl hq2 (fun al2 kl2 => ?_)
          refine Exec.run tyOk 400 rfl ?_
          refine Exec.stP tyOk 1 rfl rfl rfl rfl rfl (Nat.le_of_ble_eq_true rfl) rfl rfl rfl ?_
          refine Exec.run tyOk 400 rfl ?_
          refine Exec.cut 3 [(8, .v (.pointer (some ⟨b8, 0, none⟩))), (9, .v (.int .i64 x)), (24, .v (.slice a6 (d.1.length) k6)), (25, .v (.int .i64 ((d.1.length : Nat) : Int))), (26, .v (.int .i64 i))] (M' := [.row (.slice (some ⟨b6, 0, none⟩) 1 1) [.slice a6 (d.1.length) k6] 24 1, .row (.slice (some ⟨b8, 0, none⟩) 1 1) [.slice al2 (l1 ++ [(atI d.1 i).Key]).length kl2] 32 1, .row (.slice al2 (l1 ++ [(atI d.1 i).Key]).length kl2) (cs ++ [.string ⟨⟨(atI d.1 i).Key⟩⟩]) 9 1]) rfl ⟨rfl, rfl, rfl, rfl, rfl, trivial⟩ rfl rfl rfl ?_
          exact Exec.round [(8, .v (.pointer (some ⟨b8, 0, none⟩))), (9, .v (.int .i64 x)), (24, .v (.slice a6 (d.1.length) k6)), (25, .v (.int .i64 ((d.1.length : Nat) : Int))), (26, .v (.int .i64 i))] ⟨rfl, rfl, rfl, rfl, rfl, trivial⟩ ⟨al2, kl2, rfl, rfl, rfl⟩
        rintro L' V11 M' a11 w11 ⟨al2, kl2, rfl, rfl, rfl⟩ s11
        exact step (l1 ++ [(atI d.1 i).Key]) al2 kl2 (cs ++ [.string ⟨⟨(atI d.1 i).Key⟩⟩]) V11 a11 w11 (VLe.refl _) s11 (RowRep.app hr7 ⟨_, _, rfl, rfl, rfl⟩) hl2
      case _ =>
        have hl2 : l1 = ls ++ selB (q.take (i.toNat + 1)) x := by
          rw [hsel, if_neg (by rw [hc]; simp), List.append_nil, hl1]
        refine wpIn_skip ?_
        obtain ⟨L', V11, M', ⟨rfl, rfl, rfl⟩, s11⟩ := s10.via (P := Tryz.prog) (T := tyT) (fn := Tryz.f18) (fun L' V' M' => L' = [(8, .v (.pointer (some ⟨b8, 0, none⟩))), (9, .v (.int .i64 x)), (24, .v (.slice a6 (d.1.length) k6)), (25, .v (.int .i64 ((d.1.length : Nat) : Int))), (26, .v (.int .i64 i))] ∧ V' = V10 ∧ M' = [.row (.slice (some ⟨b6, 0, none⟩) 1 1) [.slice a6 (d.1.length) k6] 24 1, .row (.slice (some ⟨b8, 0, none⟩) 1 1) [.slice al l1.length kl] 32 1, .row (.slice al l1.length kl) cs 9 1]) (by
          refine Exec.cut 3 [(8, .v (.pointer (some ⟨b8, 0, none⟩))), (9, .v (.int .i64 x)), (24, .v (.slice a6 (d.1.length) k6)), (25, .v (.int .i64 ((d.1.length : Nat) : Int))), (26, .v (.int .i64 i))] (M' := [.row (.slice (some ⟨b6, 0, none⟩) 1 1) [.slice a6 (d.1.length) k6] 24 1, .row (.slice (some ⟨b8, 0, none⟩) 1 1) [.slice al l1.length kl] 32 1, .row (.slice al l1.length kl) cs 9 1]) rfl ⟨rfl, rfl, rfl, rfl, rfl, trivial⟩ rfl rfl rfl ?_
          exact Exec.round [(8, .v (.pointer (some ⟨b8, 0, none⟩))), (9, .v (.int .i64 x)), (24, .v (.slice a6 (d.1.length) k6)), (25, .v (.int .i64 ((d.1.length : Nat) : Int))), (26, .v (.int .i64 i))] ⟨rfl, rfl, rfl, rfl, rfl, trivial⟩ ⟨rfl, rfl, rfl⟩)
        exact step l1 al kl cs V11 _ _ (VLe.refl _) s11 hr7 hl2
    case _ =>
      have hge : (d.1.length : Int) ≤ i := by simpa using hc
      refine wpIn_exit ?_
      have he : i.toNat = d.1.length := by omega
      refine hQ _ _ _ _ _ hv7 ⟨l1, al, kl, cs, rfl, hr7, ?_, h18⟩ s8
      rw [hl1, he, ← hql, List.take_length, List.flatMap_append, hls]
      simp
  · -- behind the loop
    rintro D V6 M6 a6' w6 hD hv6 ⟨ls, al, kl, cs, rfl, hr6, hls, h17⟩ s6
    have hlen : (sortS ls).length = ls.length := by simp [sortS]
    have hq2 : ls.length < 4611686018427387904 := by
      have e1 := flatB_len q xs
      rw [hls]; omega
    show Code.wpIn _ _ _ _ _ _ _
    refine wpIn_seq ?_
    refine s6.region (ro := none) (T := tyT) (fn := Tryz.f18) (fun L' V' M' => L' = [(8, .v (.pointer (some ⟨b8, 0, none⟩)))] ∧ V' = V6 ∧ M' = [.row (.slice (some ⟨b6, 0, none⟩) 1 1) [.slice a6 (d.1.length) k6] 24 1, .row (.slice (some ⟨b8, 0, none⟩) 1 1) [.slice al ls.length kl] 32 1, .row (.slice al ls.length kl) ((sortS ls).map encStr) 9 1]) ?_ rfl ?_
    · refine Exec.run tyOk 400 rfl ?_
      refine Exec.ldP tyOk 1 (l := [.slice al ls.length kl]) rfl rfl rfl (by intro j v hj; simpa using hj) rfl rfl ?_
      refine Exec.run tyOk 400 rfl ?_
      refine Exec.callM 2 rfl rfl rfl rfl (sortS_row hr6 (fun cs e => by subst e; exact (sortS_specM ⟨_, rfl, by kernel_rfl, by kernel_rfl⟩ Tryz.slices_Sort_string Tryz.slices_Sort_string_none hq2))) ?_
      rintro VV _ _ _ ⟨rfl, hVV, rfl⟩
      have hVV := hVV.symm
      subst hVV
      refine ⟨_, rfl, ?_⟩
      refine Exec.run tyOk 400 rfl ?_
      exact Exec.round [(8, .v (.pointer (some ⟨b8, 0, none⟩)))] ⟨rfl, trivial⟩ ⟨rfl, rfl, rfl⟩
    clear s6
    rintro L' V7 M' a7 w7 ⟨rfl, rfl, rfl⟩ s7
    show Code.wpIn _ _ _ _ _ _ _
    refine wpIn_seq ?_
    refine s7.region (ro := none) (T := tyT) (fn := Tryz.f18) (fun L' V' M' => L' = [(4, .v (.slice al ls.length kl)), (5, .v (.int .i64 0))] ∧ SlAt cStr V' al kl (sortS ls)) ?_ rfl ?_
    · refine Exec.run tyOk 400 rfl ?_
      refine Exec.ldP tyOk 1 (l := [.slice al ls.length kl]) rfl rfl rfl (by intro j v hj; simpa using hj) rfl rfl ?_
      refine Exec.run tyOk 400 rfl ?_
      refine Exec.frz 2 rfl rfl rfl (fun V8 hv8 hd8 hn8 => ?_)
      have hz8 := RowRep.slat (RowRep.ofStrs (V := V7) (sortS ls)) hv8 hd8 (by rw [hlen]; exact hn8)
      exact Exec.round [(4, .v (.slice al ls.length kl)), (5, .v (.int .i64 0))] ⟨rfl, rfl, trivial⟩ ⟨rfl, hz8⟩
    clear s7
    rintro L' V8 M8 a8 w8 ⟨rfl, hz8⟩ s8
    show Code.wpIn _ _ _ _ _ _ _
    refine wpIn_ret ?_
    refine s8.leaves (T := tyT) tyOk rfl rfl hD (fun env w' hW => ⟨_, env, V8, M8, rfl, hW, al, kl, ?_, ?_⟩)
    · show Value.tuple ⟨[.slice al ls.length kl, .int .i64 0]⟩ = .tuple ⟨[.slice al (sortS (xs.flatMap (selB q))).length kl, .int .i64 0]⟩
      rw [← hls, hlen]
    · show SlAt cStr V8 al kl (sortS (xs.flatMap (selB q)))
      rw [← hls]; exact hz8
end

def F_clockworkref54_Compare_L1 (x5 : List TPair × Int) (x23 : List Int) (J34 : (List Str) → Option (List Str × Int)) : Nat → (List Str) → Int → Option (List Str × Int)
  | 0, _, _ => none
  | n40 + 1, x38, x39 => (cond (decide (x39 < (((x5.1).length : Nat) : Int))) (req (0 ≤ x39 ∧ x39 < ((x5.1).length : Int)) (bnd (F_clockworkref53_Bucket ((atI x5.1 x39).Key)) fun x46 => (bnd (F_clockworkref54_has x23 x46) fun x47 => (jn (fun (x49 : List Str) => (F_clockworkref54_Compare_L1 x5 x23 J34 n40 x49 ((IntKind.i64.wrap (x39 + (1 : Int)))))) (fun J50 => (cond x47 (req (0 ≤ x39 ∧ x39 < ((x5.1).length : Int)) (req (((x38 ++ [(atI x5.1 x39).Key])).length * 16 ≤ 140737488355328) (J50 ((x38 ++ [(atI x5.1 x39).Key]))))) (J50 x38))))))) (J34 x38))

def F_clockworkref54_Compare (x1 : List TPair) (x3 : List TPair) : Option (List Str × Int) :=
  (bnd (F_clockworkref06_Diff x1 x3) fun x5 => (cond (x5.2 != (0 : Int)) (some (([] : List Str), (1 : Int))) (bnd (F_clockworkref53_Tree x1) fun x10 => (bnd (F_clockworkref53_Tree x3) fun x16 => (bnd (F_clockworkref53_Diff x10 x16) fun x23 => (jn (fun (x33 : List Str) => (some (x33, (0 : Int)))) (fun J34 => (F_clockworkref54_Compare_L1 x5 x23 J34 (((((x5.1).length : Nat) : Int)).toNat + 1) (([] : List Str)) ((0 : Int))))))))))

set_option maxRecDepth 100000 in
theorem W_clockworkref54_Compare {V : View} (x1 : List TPair) (x3 : List TPair) {a2 : Option Addr} {k2 : Nat} {a4 : Option Addr} {k4 : Nat} (h2 : SlAt cTPair V a2 k2 x1) (h4 : SlAt cTPair V a4 k4 x3) {r : List Str × Int} (hF : F_clockworkref54_Compare x1 x3 = some r) :
    Spec Tryz.prog 19 [.slice a2 ((x1).length) (k2), .slice a4 ((x3).length) (k4)] V (fun V' v => ∃ (a58 : Option Addr) (k58 : Nat), v = .tuple ⟨[.slice a58 ((r.1).length) (k58), .int .i64 (r.2)]⟩ ∧ SlAt cStr V' a58 k58 r.1) := by
  unfold F_clockworkref54_Compare at hF
  refine Spec.enter (T := tyT) Tryz.func19 rfl (by kernel_rfl) rfl rfl rfl ?_
  refine Exec.run tyOk 400 rfl ?_
  obtain ⟨x5, hx5, hF⟩ := bnd_some hF
  refine Exec.call rfl rfl (W_clockworkref06_Diff x1 x3 h2 h4 hx5) ?_
  rintro V7 _ hv7 ⟨a6, k6, rfl, h6⟩
  have h8 := SlAt.mono h2 hv7
  have h9 := SlAt.mono h4 hv7
  refine Exec.run tyOk 400 rfl ?_
  rcases cond_some hF with ⟨hb, hF⟩ | ⟨hb, hF⟩
  · skip
    refine Exec.ifT rfl hb ?_
    refine Exec.run tyOk 400 rfl ?_
    obtain rfl := some_inj hF
    exact Exec.ret tyOk rfl rfl ⟨_, _, rfl, SlAt.nil⟩
  · skip
    refine Exec.ifF rfl hb ?_
    refine Exec.run tyOk 400 rfl ?_
    obtain ⟨x10, hx10, hF⟩ := bnd_some hF
    refine Exec.call rfl rfl (W_clockworkref53_Tree x1 h8 hx10) ?_
    rintro V12 _ hv12 ⟨a11, k11, rfl, h11⟩
    have h13 := SlAt.mono h8 hv12
    have h14 := SlAt.mono h9 hv12
    have h15 := SlAt.mono h6 hv12
    refine Exec.run tyOk 400 rfl ?_
    obtain ⟨x16, hx16, hF⟩ := bnd_some hF
    refine Exec.call rfl rfl (W_clockworkref53_Tree x3 h14 hx16) ?_
    rintro V18 _ hv18 ⟨a17, k17, rfl, h17⟩
    have h19 := SlAt.mono h13 hv18
    have h20 := SlAt.mono h14 hv18
    have h21 := SlAt.mono h15 hv18
    have h22 := SlAt.mono h11 hv18
    refine Exec.run tyOk 400 rfl ?_
    obtain ⟨x23, hx23, hF⟩ := bnd_some hF
    refine Exec.call rfl rfl (W_clockworkref53_Diff x10 x16 h22 h17 hx23) ?_
    rintro V25 _ hv25 ⟨a24, k24, rfl, h24⟩
    have h26 := SlAt.mono h19 hv25
    have h27 := SlAt.mono h20 hv25
    have h28 := SlAt.mono h21 hv25
    have h29 := SlAt.mono h22 hv25
    have h30 := SlAt.mono h17 hv25
    refine Exec.run tyOk 11 rfl ?_
    refine Exec.row0 9 1 rfl ?_
    have h31 : RowRep cStr V25 ([] : List Str) [] := RowRep.nil
    obtain ⟨J34, hJ34, hF⟩ := jn_some hF
    refine Exec.seam (fun L' V' M' => ∃ (x33 : List Str) (a32 : Option Addr) (k32 : Nat) (cs32 : List Value), L' = [(9, .v (.slice a32 ((x33).length) (k32)))] ∧ M' = [.row (.slice a32 ((x33).length) (k32)) cs32 9 1] ∧ RowRep cStr V' x33 cs32 ∧ J34 x33 = some r) rfl ?_ ?_
    · rintro L' V35 M' ⟨x33, a32, k32, cs32, rfl, rfl, h32, hF⟩
      subst hJ34
      refine Exec.run tyOk 400 rfl ?_
      refine Exec.frz 0 rfl rfl rfl (fun V36 hv36 hd36 hn36 => ?_)
      have hz36 := RowRep.slat h32 hv36 hd36 hn36
      obtain rfl := some_inj hF
      exact Exec.ret tyOk rfl rfl ⟨_, _, rfl, hz36⟩
    · skip
      refine Exec.run tyOk 400 rfl ?_
      refine Exec.loop (fun n40 L' V' M' => ∃ (x38 : List Str) (a37 : Option Addr) (k37 : Nat) (cs37 : List Value) (x39 : Int), L' = [(6, .v (.slice a6 ((x5.1).length) (k6))), (8, .v (.slice a24 ((x23).length) (k24))), (9, .v (.slice a37 ((x38).length) (k37))), (10, .v (.int .i64 (x39)))] ∧ M' = [.row (.slice a37 ((x38).length) (k37)) cs37 9 1] ∧ RowRep cStr V' x38 cs37 ∧ SlAt cTPair V' a6 k6 x5.1 ∧ SlAt (cInt .i64) V' a24 k24 x23 ∧ F_clockworkref54_Compare_L1 x5 x23 J34 n40 x38 x39 = some r) ⟨(((((x5.1).length : Nat) : Int)).toNat + 1), [(6, .v (.slice a6 ((x5.1).length) (k6))), (8, .v (.slice a24 ((x23).length) (k24))), (9, .v (.slice none ((([] : List Str)).length) (0))), (10, .v (.int .i64 ((0 : Int))))], ⟨rfl, rfl, rfl, rfl, trivial⟩, ([] : List Str), none, 0, [], (0 : Int), rfl, rfl, h31, h28, h24, hF⟩ ?_
      rintro n40 L' V41 M' ⟨x38, a37, k37, cs37, x39, rfl, rfl, h37, h42, h43, hF⟩
      rcases n40 with _ | n40
      · exact absurd hF (by simp [F_clockworkref54_Compare_L1])
      rw [F_clockworkref54_Compare_L1] at hF
      refine Exec.run tyOk 400 rfl ?_
      rcases cond_some hF with ⟨hb, hF⟩ | ⟨hb, hF⟩
      · skip
        refine Exec.ifT rfl hb ?_
        refine Exec.run tyOk 400 rfl ?_
        obtain ⟨q44, hF⟩ := req_some hF
        obtain ⟨c45, hr45, hd45⟩ := SlAt.get h42 q44
        obtain rfl := hr45
        refine Exec.ia tyOk rfl rfl ⟨q44.1, q44.2, hd45.some⟩ ?_
        refine Exec.run tyOk 400 rfl ?_
        refine Exec.ld tyOk (x := .string ⟨⟨(atI x5.1 x39).Key⟩⟩) rfl rfl (RdAt.part hd45 0 1 rfl) rfl rfl ?_
        refine Exec.run tyOk 400 rfl ?_
        obtain ⟨x46, hx46, hF⟩ := bnd_some hF
        refine Exec.callS (.int .i64 (x46)) rfl rfl (W_clockworkref53_Bucket ((atI x5.1 x39).Key)  hx46) ?_
        refine Exec.run tyOk 400 rfl ?_
        obtain ⟨x47, hx47, hF⟩ := bnd_some hF
        refine Exec.callS (.bool (x47)) rfl rfl (W_clockworkref54_has x23 x46 h43 hx47) ?_
        refine Exec.run tyOk 400 rfl ?_
        obtain ⟨J50, hJ50, hF⟩ := jn_some hF
        refine Exec.seam (fun L' V' M' => ∃ (x49 : List Str) (a48 : Option Addr) (k48 : Nat) (cs48 : List Value), L' = [(6, .v (.slice a6 ((x5.1).length) (k6))), (8, .v (.slice a24 ((x23).length) (k24))), (9, .v (.slice a48 ((x49).length) (k48))), (10, .v (.int .i64 (x39)))] ∧ M' = [.row (.slice a48 ((x49).length) (k48)) cs48 9 1] ∧ RowRep cStr V' x49 cs48 ∧ SlAt cTPair V' a6 k6 x5.1 ∧ SlAt (cInt .i64) V' a24 k24 x23 ∧ J50 x49 = some r) rfl ?_ ?_
        · rintro L' V51 M' ⟨x49, a48, k48, cs48, rfl, rfl, h48, h52, h53, hF⟩
          subst hJ50
          refine Exec.run tyOk 400 rfl ?_
          exact Exec.round [(6, .v (.slice a6 ((x5.1).length) (k6))), (8, .v (.slice a24 ((x23).length) (k24))), (9, .v (.slice a48 ((x49).length) (k48))), (10, .v (.int .i64 ((IntKind.i64.wrap (x39 + (1 : Int))))))] ⟨rfl, rfl, rfl, rfl, trivial⟩ ⟨n40, Nat.lt_succ_self _, x49, a48, k48, cs48, (IntKind.i64.wrap (x39 + (1 : Int))), rfl, rfl, h48, h52, h53, hF⟩
        · skip
          refine Exec.run tyOk 400 rfl ?_
          rcases cond_some hF with ⟨hb, hF⟩ | ⟨hb, hF⟩
          · skip
            refine Exec.ifT rfl hb ?_
            refine Exec.run tyOk 400 rfl ?_
            obtain ⟨q54, hF⟩ := req_some hF
            obtain ⟨c55, hr55, hd55⟩ := SlAt.get h42 q54
            obtain rfl := hr55
            refine Exec.ia tyOk rfl rfl ⟨q54.1, q54.2, hd55.some⟩ ?_
            refine Exec.run tyOk 400 rfl ?_
            refine Exec.ld tyOk (x := .string ⟨⟨(atI x5.1 x39).Key⟩⟩) rfl rfl (RdAt.part hd55 0 1 rfl) rfl rfl ?_
            refine Exec.run tyOk 400 rfl ?_
            refine Exec.bsl tyOk rfl rfl ?_
            refine Exec.run tyOk 400 rfl ?_
            obtain ⟨q57, hF⟩ := req_some hF
            refine Exec.app tyOk 0 1 (nm := ((x38 ++ [(atI x5.1 x39).Key])).length) rfl rfl rfl rfl rfl rfl rfl rfl rfl (by simp) (fun _ _ => rfl) rfl q57 (fun a56 k56 => ?_)
            have h56 : RowRep cStr V41 (x38 ++ [(atI x5.1 x39).Key]) (cs37 ++ [.string ⟨⟨(atI x5.1 x39).Key⟩⟩]) := RowRep.app h37 ⟨_, _, rfl, rfl, rfl⟩
            refine Exec.run tyOk 400 rfl ?_
            refine Exec.cut 1 [(6, .v (.slice a6 ((x5.1).length) (k6))), (8, .v (.slice a24 ((x23).length) (k24))), (9, .v (.slice a56 (((x38 ++ [(atI x5.1 x39).Key])).length) (k56))), (10, .v (.int .i64 (x39)))] (M' := [.row (.slice a56 (((x38 ++ [(atI x5.1 x39).Key])).length) (k56)) ((cs37 ++ [.string ⟨⟨(atI x5.1 x39).Key⟩⟩])) 9 1]) rfl ⟨rfl, rfl, rfl, rfl, trivial⟩ rfl rfl rfl ?_
            exact Exec.round [(6, .v (.slice a6 ((x5.1).length) (k6))), (8, .v (.slice a24 ((x23).length) (k24))), (9, .v (.slice a56 (((x38 ++ [(atI x5.1 x39).Key])).length) (k56))), (10, .v (.int .i64 (x39)))] ⟨rfl, rfl, rfl, rfl, trivial⟩ ⟨(x38 ++ [(atI x5.1 x39).Key]), a56, k56, (cs37 ++ [.string ⟨⟨(atI x5.1 x39).Key⟩⟩]), rfl, rfl, h56, h42, h43, hF⟩
          · skip
            refine Exec.ifF rfl hb ?_
            refine Exec.run tyOk 400 rfl ?_
            exact Exec.round [(6, .v (.slice a6 ((x5.1).length) (k6))), (8, .v (.slice a24 ((x23).length) (k24))), (9, .v (.slice a37 ((x38).length) (k37))), (10, .v (.int .i64 (x39)))] ⟨rfl, rfl, rfl, rfl, trivial⟩ ⟨x38, a37, k37, cs37, rfl, rfl, h37, h42, h43, hF⟩
      · skip
        refine Exec.ifF rfl hb ?_
        refine Exec.run tyOk 400 rfl ?_
        exact Exec.round [(9, .v (.slice a37 ((x38).length) (k37)))] ⟨rfl, trivial⟩ ⟨x38, a37, k37, cs37, rfl, rfl, h37, hF⟩

def F_clockworklaw54_works  : Option Bool :=
  (bnd (F_verify_Bisect (([(1 : Int), (2 : Int), (3 : Int), (4 : Int)] : List Int)) (([(1 : Int), (2 : Int), (5 : Int), (6 : Int)] : List Int))) fun x4 => (bnd (F_clockworklaw54_pair (([97] : Str)) ((1 : Int))) fun x5 => (bnd (F_clockworklaw54_pair (([98] : Str)) ((2 : Int))) fun x6 => (bnd (F_clockworklaw54_pair (([98] : Str)) ((2 : Int))) fun x10 => (bnd (F_clockworklaw54_pair (([99] : Str)) ((3 : Int))) fun x11 => (bnd (F_verify_Compare (([x5, x6] : List TPair)) (([x10, x11] : List TPair))) fun x16 => (bnd (F_clockworklaw54_pair (([65] : Str)) ((1 : Int))) fun x23 => (bnd (F_verify_Compare (([x23] : List TPair)) (([] : List TPair))) fun x30 => (bnd (F_clockworklaw54_pair (([97] : Str)) ((1 : Int))) fun x39 => (bnd (F_clockworkref22_New (([x39] : List TPair)) ((5 : Int))) fun x48 => (bnd (F_clockworklaw54_pair (([97] : Str)) ((2 : Int))) fun x59 => (bnd (F_clockworkref22_Apply x48.1 ((7 : Int)) (([x59] : List TPair))) fun x70 => (bnd (F_clockworklaw54_pair (([97] : Str)) ((3 : Int))) fun x165 => (bnd (F_clockworkref22_Apply x48.1 ((7 : Int)) (([x165] : List TPair))) fun x170 => (bnd (F_verify_Stores x70.1 x170.1) fun x218 => (bnd (F_verify_Stores x70.1 x70.1) fun x219 => (bnd (F_clockworklaw54_pair (([97] : Str)) ((1 : Int))) fun x220 => (bnd (F_verify_History (([([] : List TPair), ([x220] : List TPair), ([] : List TPair)] : List (List TPair)))) fun x232 => (req (((((((x232).length : Nat) : Int) != (3 : Int))) == false) = true → 0 ≤ (0 : Int) ∧ (0 : Int) < ((x232).length : Int)) (req (((((((x232).length : Nat) : Int) != (3 : Int))) == false) = true → 0 ≤ (2 : Int) ∧ (2 : Int) < ((x232).length : Int)) (req ((((((((x232).length : Nat) : Int) != (3 : Int)) || ((cond ((((((x232).length : Nat) : Int) != (3 : Int))) == false) (atI x232 ((0 : Int))) default) != (cond ((((((x232).length : Nat) : Int) != (3 : Int))) == false) (atI x232 ((2 : Int))) default)))) == false) = true → 0 ≤ (0 : Int) ∧ (0 : Int) < ((x232).length : Int)) (req ((((((((x232).length : Nat) : Int) != (3 : Int)) || ((cond ((((((x232).length : Nat) : Int) != (3 : Int))) == false) (atI x232 ((0 : Int))) default) != (cond ((((((x232).length : Nat) : Int) != (3 : Int))) == false) (atI x232 ((2 : Int))) default)))) == false) = true → 0 ≤ (1 : Int) ∧ (1 : Int) < ((x232).length : Int)) (cond ((((((x232).length : Nat) : Int) != (3 : Int)) || ((cond ((((((x232).length : Nat) : Int) != (3 : Int))) == false) (atI x232 ((0 : Int))) default) != (cond ((((((x232).length : Nat) : Int) != (3 : Int))) == false) (atI x232 ((2 : Int))) default))) || ((cond (((((((x232).length : Nat) : Int) != (3 : Int)) || ((cond ((((((x232).length : Nat) : Int) != (3 : Int))) == false) (atI x232 ((0 : Int))) default) != (cond ((((((x232).length : Nat) : Int) != (3 : Int))) == false) (atI x232 ((2 : Int))) default)))) == false) (atI x232 ((0 : Int))) default) == (cond (((((((x232).length : Nat) : Int) != (3 : Int)) || ((cond ((((((x232).length : Nat) : Int) != (3 : Int))) == false) (atI x232 ((0 : Int))) default) != (cond ((((((x232).length : Nat) : Int) != (3 : Int))) == false) (atI x232 ((2 : Int))) default)))) == false) (atI x232 ((1 : Int))) default))) (some false) (bnd (F_verify_First (([(1 : Int), (2 : Int), (3 : Int)] : List Int)) (([(1 : Int), (2 : Int), (4 : Int)] : List Int))) fun x266 => (bnd (gcall (((x266 == (2 : Int))) == true) (F_verify_First (([(1 : Int)] : List Int)) (([(1 : Int), (2 : Int)] : List Int)))) fun x288 => (bnd (gcall ((((x266 == (2 : Int)) && (x288 == (1 : Int)))) == true) (F_verify_First (([] : List Int)) (([] : List Int)))) fun x289 => (bnd (gcall ((((((((x266 == (2 : Int)) && (x288 == (1 : Int))) && (x289 == (-1 : Int))) && (x4.1 == (2 : Int))) && (x4.2 == (3 : Int))) && (x16.2 == (0 : Int)))) == true) (F_clockworkref04_Same x16.1 (([([97] : Str), ([99] : Str)] : List Str)))) fun x302 => (some (((((((((((x266 == (2 : Int)) && (x288 == (1 : Int))) && (x289 == (-1 : Int))) && (x4.1 == (2 : Int))) && (x4.2 == (3 : Int))) && (x16.2 == (0 : Int))) && x302) && (x30.2 == (1 : Int))) && (x218.1 == (7 : Int))) && (x218.2 == (0 : Int))) && (x219.2 == (9 : Int)))))))))))))))))))))))))))))))

set_option maxRecDepth 100000 in
theorem W_clockworklaw54_works {V : View}    {r : Bool} (hF : F_clockworklaw54_works  = some r) :
    Spec Tryz.prog 10 [] V (fun _ v => v = .bool (r)) := by
  unfold F_clockworklaw54_works at hF
  refine Spec.enter (T := tyT) Tryz.func10 rfl (by kernel_rfl) rfl rfl rfl ?_
  refine Exec.run tyOk 400 rfl ?_
  refine Exec.bsV tyOk rfl rfl rfl rfl rfl (fun V1 a1 hv1 hd1 => ?_)
  have h1 : SlAt (cInt .u64) V1 (some a1) 4 ([(1 : Int), (2 : Int), (3 : Int), (4 : Int)] : List Int) := RowRep.slat (c := (cInt .u64)) (V := V1) (cs := [.int .u64 ((1 : Int)), .int .u64 ((2 : Int)), .int .u64 ((3 : Int)), .int .u64 ((4 : Int))]) ⟨_, _, rfl, rfl, ⟨_, _, rfl, rfl, ⟨_, _, rfl, rfl, ⟨_, _, rfl, rfl, rfl⟩⟩⟩⟩ (VLe.refl _) (fun _ => hd1) (by simp)
  refine Exec.run tyOk 400 rfl ?_
  refine Exec.bsV tyOk rfl rfl rfl rfl rfl (fun V2 a2 hv2 hd2 => ?_)
  have h3 := SlAt.mono h1 hv2
  have h2 : SlAt (cInt .u64) V2 (some a2) 4 ([(1 : Int), (2 : Int), (5 : Int), (6 : Int)] : List Int) := RowRep.slat (c := (cInt .u64)) (V := V2) (cs := [.int .u64 ((1 : Int)), .int .u64 ((2 : Int)), .int .u64 ((5 : Int)), .int .u64 ((6 : Int))]) ⟨_, _, rfl, rfl, ⟨_, _, rfl, rfl, ⟨_, _, rfl, rfl, ⟨_, _, rfl, rfl, rfl⟩⟩⟩⟩ (VLe.refl _) (fun _ => hd2) (by simp)
  refine Exec.run tyOk 400 rfl ?_
  obtain ⟨x4, hx4, hF⟩ := bnd_some hF
  refine Exec.callS (.tuple ⟨[.int .i64 (x4.1), .int .i64 (x4.2)]⟩) rfl rfl (W_verify_Bisect (([(1 : Int), (2 : Int), (3 : Int), (4 : Int)] : List Int)) (([(1 : Int), (2 : Int), (5 : Int), (6 : Int)] : List Int)) h3 h2 hx4) ?_
  refine Exec.run tyOk 400 rfl ?_
  obtain ⟨x5, hx5, hF⟩ := bnd_some hF
  refine Exec.callS (.agg ⟨[.string ⟨⟨x5.Key⟩⟩, .int .i64 (x5.Val.Kind), .int .i64 (x5.Val.N), .string ⟨⟨x5.Val.S⟩⟩]⟩) rfl rfl (W_clockworklaw54_pair (([97] : Str)) ((1 : Int))  hx5) ?_
  refine Exec.run tyOk 400 rfl ?_
  obtain ⟨x6, hx6, hF⟩ := bnd_some hF
  refine Exec.callS (.agg ⟨[.string ⟨⟨x6.Key⟩⟩, .int .i64 (x6.Val.Kind), .int .i64 (x6.Val.N), .string ⟨⟨x6.Val.S⟩⟩]⟩) rfl rfl (W_clockworklaw54_pair (([98] : Str)) ((2 : Int))  hx6) ?_
  refine Exec.run tyOk 400 rfl ?_
  refine Exec.bsV tyOk rfl rfl rfl rfl rfl (fun V7 a7 hv7 hd7 => ?_)
  have h8 := SlAt.mono h3 hv7
  have h9 := SlAt.mono h2 hv7
  have h7 : SlAt cTPair V7 (some a7) 2 ([x5, x6] : List TPair) := RowRep.slat (c := cTPair) (V := V7) (cs := [.string ⟨⟨x5.Key⟩⟩, .int .i64 (x5.Val.Kind), .int .i64 (x5.Val.N), .string ⟨⟨x5.Val.S⟩⟩, .string ⟨⟨x6.Key⟩⟩, .int .i64 (x6.Val.Kind), .int .i64 (x6.Val.N), .string ⟨⟨x6.Val.S⟩⟩]) ⟨_, _, rfl, rfl, ⟨_, _, rfl, rfl, rfl⟩⟩ (VLe.refl _) (fun _ => hd7) (by simp)
  refine Exec.run tyOk 400 rfl ?_
  obtain ⟨x10, hx10, hF⟩ := bnd_some hF
  refine Exec.callS (.agg ⟨[.string ⟨⟨x10.Key⟩⟩, .int .i64 (x10.Val.Kind), .int .i64 (x10.Val.N), .string ⟨⟨x10.Val.S⟩⟩]⟩) rfl rfl (W_clockworklaw54_pair (([98] : Str)) ((2 : Int))  hx10) ?_
  refine Exec.run tyOk 400 rfl ?_
  obtain ⟨x11, hx11, hF⟩ := bnd_some hF
  refine Exec.callS (.agg ⟨[.string ⟨⟨x11.Key⟩⟩, .int .i64 (x11.Val.Kind), .int .i64 (x11.Val.N), .string ⟨⟨x11.Val.S⟩⟩]⟩) rfl rfl (W_clockworklaw54_pair (([99] : Str)) ((3 : Int))  hx11) ?_
  refine Exec.run tyOk 400 rfl ?_
  refine Exec.bsV tyOk rfl rfl rfl rfl rfl (fun V12 a12 hv12 hd12 => ?_)
  have h13 := SlAt.mono h8 hv12
  have h14 := SlAt.mono h9 hv12
  have h15 := SlAt.mono h7 hv12
  have h12 : SlAt cTPair V12 (some a12) 2 ([x10, x11] : List TPair) := RowRep.slat (c := cTPair) (V := V12) (cs := [.string ⟨⟨x10.Key⟩⟩, .int .i64 (x10.Val.Kind), .int .i64 (x10.Val.N), .string ⟨⟨x10.Val.S⟩⟩, .string ⟨⟨x11.Key⟩⟩, .int .i64 (x11.Val.Kind), .int .i64 (x11.Val.N), .string ⟨⟨x11.Val.S⟩⟩]) ⟨_, _, rfl, rfl, ⟨_, _, rfl, rfl, rfl⟩⟩ (VLe.refl _) (fun _ => hd12) (by simp)
  refine Exec.run tyOk 400 rfl ?_
  obtain ⟨x16, hx16, hF⟩ := bnd_some hF
  refine Exec.call rfl rfl (W_verify_Compare (([x5, x6] : List TPair)) (([x10, x11] : List TPair)) h15 h12 hx16) ?_
  rintro V18 _ hv18 ⟨a17, k17, rfl, h17⟩
  have h19 := SlAt.mono h13 hv18
  have h20 := SlAt.mono h14 hv18
  have h21 := SlAt.mono h15 hv18
  have h22 := SlAt.mono h12 hv18
  refine Exec.run tyOk 400 rfl ?_
  obtain ⟨x23, hx23, hF⟩ := bnd_some hF
  refine Exec.callS (.agg ⟨[.string ⟨⟨x23.Key⟩⟩, .int .i64 (x23.Val.Kind), .int .i64 (x23.Val.N), .string ⟨⟨x23.Val.S⟩⟩]⟩) rfl rfl (W_clockworklaw54_pair (([65] : Str)) ((1 : Int))  hx23) ?_
  refine Exec.run tyOk 400 rfl ?_
  refine Exec.bsV tyOk rfl rfl rfl rfl rfl (fun V24 a24 hv24 hd24 => ?_)
  have h25 := SlAt.mono h17 hv24
  have h26 := SlAt.mono h19 hv24
  have h27 := SlAt.mono h20 hv24
  have h28 := SlAt.mono h21 hv24
  have h29 := SlAt.mono h22 hv24
  have h24 : SlAt cTPair V24 (some a24) 1 ([x23] : List TPair) := RowRep.slat (c := cTPair) (V := V24) (cs := [.string ⟨⟨x23.Key⟩⟩, .int .i64 (x23.Val.Kind), .int .i64 (x23.Val.N), .string ⟨⟨x23.Val.S⟩⟩]) ⟨_, _, rfl, rfl, rfl⟩ (VLe.refl _) (fun _ => hd24) (by simp)
  refine Exec.run tyOk 400 rfl ?_
  obtain ⟨x30, hx30, hF⟩ := bnd_some hF
  refine Exec.call rfl rfl (W_verify_Compare (([x23] : List TPair)) (([] : List TPair)) h24 SlAt.nil hx30) ?_
  rintro V32 _ hv32 ⟨a31, k31, rfl, h31⟩
  have h33 := SlAt.mono h25 hv32
  have h34 := SlAt.mono h26 hv32
  have h35 := SlAt.mono h27 hv32
  have h36 := SlAt.mono h28 hv32
  have h37 := SlAt.mono h29 hv32
  have h38 := SlAt.mono h24 hv32
  refine Exec.run tyOk 400 rfl ?_
  obtain ⟨x39, hx39, hF⟩ := bnd_some hF
  refine Exec.callS (.agg ⟨[.string ⟨⟨x39.Key⟩⟩, .int .i64 (x39.Val.Kind), .int .i64 (x39.Val.N), .string ⟨⟨x39.Val.S⟩⟩]⟩) rfl rfl (W_clockworklaw54_pair (([97] : Str)) ((1 : Int))  hx39) ?_
  refine Exec.run tyOk 400 rfl ?_
  refine Exec.bsV tyOk rfl rfl rfl rfl rfl (fun V40 a40 hv40 hd40 => ?_)
  have h41 := SlAt.mono h33 hv40
  have h42 := SlAt.mono h31 hv40
  have h43 := SlAt.mono h34 hv40
  have h44 := SlAt.mono h35 hv40
  have h45 := SlAt.mono h36 hv40
  have h46 := SlAt.mono h37 hv40
  have h47 := SlAt.mono h38 hv40
  have h40 : SlAt cTPair V40 (some a40) 1 ([x39] : List TPair) := RowRep.slat (c := cTPair) (V := V40) (cs := [.string ⟨⟨x39.Key⟩⟩, .int .i64 (x39.Val.Kind), .int .i64 (x39.Val.N), .string ⟨⟨x39.Val.S⟩⟩]) ⟨_, _, rfl, rfl, rfl⟩ (VLe.refl _) (fun _ => hd40) (by simp)
  refine Exec.run tyOk 400 rfl ?_
  obtain ⟨x48, hx48, hF⟩ := bnd_some hF
  refine Exec.call rfl rfl (W_clockworkref22_New (([x39] : List TPair)) ((5 : Int)) h40 hx48) ?_
  rintro V50 _ hv50 ⟨a49, k49, rfl, h49⟩
  have h51 := SlAt.mono h41 hv50
  have h52 := SlAt.mono h42 hv50
  have h53 := SlAt.mono h43 hv50
  have h54 := SlAt.mono h44 hv50
  have h55 := SlAt.mono h45 hv50
  have h56 := SlAt.mono h46 hv50
  have h57 := SlAt.mono h47 hv50
  have h58 := SlAt.mono h40 hv50
  refine Exec.run tyOk 400 rfl ?_
  refine Exec.drawsE tyOk [] [] [(0, true)] (by kernel_rfl) ?_
  refine Exec.run tyOk 400 rfl ?_
  obtain ⟨x59, hx59, hF⟩ := bnd_some hF
  obtain ⟨x70, hx70, hF⟩ := bnd_some hF
  refine Exec.forkJ [(8, false), (9, true)] (fun lr' L' V' M' => ∃ (a71 : Option Addr) (k71 : Nat), lr' = [] ∧ L' = [(1, .v (.int .i64 (x4.1))), (2, .v (.int .i64 (x4.2))), (3, .v (.slice a17 ((x16.1).length) (k17))), (4, .v (.int .i64 (x16.2))), (6, .v (.int .i64 (x30.2))), (7, .ptr 6 0), (9, .ptr 8 0), (51, .v (.agg ⟨[.int .i64 (x70.1.Floor), .int .i64 (x70.1.Last), .slice a71 ((x70.1.Rows).length) (k71)]⟩)), (52, .v (.int .i64 (x70.2)))] ∧ M' = [.unk, .unk, .unk, .unk, .unk, .unk, .blk [.v (.int .i64 (x48.1.Floor)), .v (.int .i64 (x48.1.Last)), .v (.slice a49 ((x48.1.Rows).length) (k49))] 40, .unk, .blk [.v (.int .i64 (0)), .v (.int .i64 (0)), .v (.slice none (0) (0))] 40] ∧ SlAt cStr V' a17 k17 x16.1 ∧ SlAt cTRow V' a71 k71 x70.1.Rows ∧ SlAt cTRow V' a49 k49 x48.1.Rows) 2 [true, true, true, true, true, true, true, true, false, false] (by kernel_rfl) (fun join => ?_) ?_
  · skip
    refine Exec.run tyOk 400 rfl ?_
    refine Exec.pick2 (i := 1) (j := 7) [] [(1, false), (2, false), (3, false), (4, true), (5, true), (6, true)] rfl (by kernel_rfl) rfl rfl (by kernel_rfl) (by kernel_rfl) (by kernel_rfl) ?_ ?_
    · skip
      refine Exec.run tyOk 400 rfl ?_
      refine Exec.callS (.agg ⟨[.string ⟨⟨x59.Key⟩⟩, .int .i64 (x59.Val.Kind), .int .i64 (x59.Val.N), .string ⟨⟨x59.Val.S⟩⟩]⟩) rfl rfl (W_clockworklaw54_pair (([97] : Str)) ((2 : Int))  hx59) ?_
      refine Exec.run tyOk 400 rfl ?_
      refine Exec.run tyOk 400 rfl ?_
      refine Exec.pick2 (i := 2) (j := 7) [] [(2, false), (3, false), (4, true), (5, true), (6, true)] rfl (by kernel_rfl) rfl rfl (by kernel_rfl) (by kernel_rfl) (by kernel_rfl) ?_ ?_
      · skip
        refine Exec.run tyOk 400 rfl ?_
        refine Exec.bsV tyOk rfl rfl rfl rfl rfl (fun V83 a83 hv83 hd83 => ?_)
        have h84 := SlAt.mono h51 hv83
        have h85 := SlAt.mono h52 hv83
        have h86 := SlAt.mono h53 hv83
        have h87 := SlAt.mono h54 hv83
        have h88 := SlAt.mono h55 hv83
        have h89 := SlAt.mono h56 hv83
        have h90 := SlAt.mono h57 hv83
        have h91 := SlAt.mono h49 hv83
        have h92 := SlAt.mono h58 hv83
        have h83 : SlAt cTPair V83 (some a83) 1 ([x59] : List TPair) := RowRep.slat (c := cTPair) (V := V83) (cs := [.string ⟨⟨x59.Key⟩⟩, .int .i64 (x59.Val.Kind), .int .i64 (x59.Val.N), .string ⟨⟨x59.Val.S⟩⟩]) ⟨_, _, rfl, rfl, rfl⟩ (VLe.refl _) (fun _ => hd83) (by simp)
        refine Exec.run tyOk 400 rfl ?_
        refine Exec.run tyOk 400 rfl ?_
        refine Exec.pick2 (i := 3) (j := 7) [(4, true), (5, true), (6, true), (7, false)] [(3, false), (4, true), (5, true), (6, true)] rfl (by kernel_rfl) rfl rfl (by kernel_rfl) (by kernel_rfl) (by kernel_rfl) ?_ ?_
        · skip
          refine Exec.run tyOk 400 rfl ?_
          refine Exec.call rfl rfl (W_clockworkref22_Apply x48.1 ((7 : Int)) (([x59] : List TPair)) h91 h83 hx70) ?_
          rintro V94 _ hv94 ⟨a93, k93, rfl, h93⟩
          have h95 := SlAt.mono h84 hv94
          have h96 := SlAt.mono h85 hv94
          have h97 := SlAt.mono h86 hv94
          have h98 := SlAt.mono h87 hv94
          have h99 := SlAt.mono h88 hv94
          have h100 := SlAt.mono h89 hv94
          have h101 := SlAt.mono h90 hv94
          have h102 := SlAt.mono h91 hv94
          have h103 := SlAt.mono h92 hv94
          have h104 := SlAt.mono h83 hv94
          refine Exec.run tyOk 400 rfl ?_
          exact join [0, 1, 2, 3, 4, 5, 6, 7, 8] (lr' := []) (L' := [(1, .v (.int .i64 (x4.1))), (2, .v (.int .i64 (x4.2))), (3, .v (.slice a17 ((x16.1).length) (k17))), (4, .v (.int .i64 (x16.2))), (6, .v (.int .i64 (x30.2))), (7, .ptr 6 0), (9, .ptr 8 0), (51, .v (.agg ⟨[.int .i64 (x70.1.Floor), .int .i64 (x70.1.Last), .slice a93 ((x70.1.Rows).length) (k93)]⟩)), (52, .v (.int .i64 (x70.2)))]) rfl rfl rfl rfl ⟨⟨_, rfl, rfl⟩, ⟨_, rfl, rfl⟩, ⟨_, rfl, rfl⟩, ⟨_, rfl, rfl⟩, ⟨_, rfl, rfl⟩, ⟨_, rfl, rfl⟩, ⟨_, rfl, rfl⟩, ⟨_, rfl, rfl⟩, ⟨_, rfl, rfl⟩, trivial⟩ trivial ⟨_, _, rfl, rfl, rfl, h95, h93, h102⟩
        · skip
          refine Exec.run tyOk 400 rfl ?_
          refine Exec.call rfl rfl (W_clockworkref22_Apply x48.1 ((7 : Int)) (([x59] : List TPair)) h91 h83 hx70) ?_
          rintro V106 _ hv106 ⟨a105, k105, rfl, h105⟩
          have h107 := SlAt.mono h84 hv106
          have h108 := SlAt.mono h85 hv106
          have h109 := SlAt.mono h86 hv106
          have h110 := SlAt.mono h87 hv106
          have h111 := SlAt.mono h88 hv106
          have h112 := SlAt.mono h89 hv106
          have h113 := SlAt.mono h90 hv106
          have h114 := SlAt.mono h91 hv106
          have h115 := SlAt.mono h92 hv106
          have h116 := SlAt.mono h83 hv106
          refine Exec.run tyOk 400 rfl ?_
          exact join [0, 1, 2, 3, 4, 5, 6, 7, 8] (lr' := []) (L' := [(1, .v (.int .i64 (x4.1))), (2, .v (.int .i64 (x4.2))), (3, .v (.slice a17 ((x16.1).length) (k17))), (4, .v (.int .i64 (x16.2))), (6, .v (.int .i64 (x30.2))), (7, .ptr 6 0), (9, .ptr 8 0), (51, .v (.agg ⟨[.int .i64 (x70.1.Floor), .int .i64 (x70.1.Last), .slice a105 ((x70.1.Rows).length) (k105)]⟩)), (52, .v (.int .i64 (x70.2)))]) rfl rfl rfl rfl ⟨⟨_, rfl, rfl⟩, ⟨_, rfl, rfl⟩, ⟨_, rfl, rfl⟩, ⟨_, rfl, rfl⟩, ⟨_, rfl, rfl⟩, ⟨_, rfl, rfl⟩, ⟨_, rfl, rfl⟩, ⟨_, rfl, rfl⟩, ⟨_, rfl, rfl⟩, trivial⟩ trivial ⟨_, _, rfl, rfl, rfl, h107, h105, h114⟩
      · skip
        refine Exec.run tyOk 400 rfl ?_
        refine Exec.bsV tyOk rfl rfl rfl rfl rfl (fun V117 a117 hv117 hd117 => ?_)
        have h118 := SlAt.mono h51 hv117
        have h119 := SlAt.mono h52 hv117
        have h120 := SlAt.mono h53 hv117
        have h121 := SlAt.mono h54 hv117
        have h122 := SlAt.mono h55 hv117
        have h123 := SlAt.mono h56 hv117
        have h124 := SlAt.mono h57 hv117
        have h125 := SlAt.mono h49 hv117
        have h126 := SlAt.mono h58 hv117
        have h117 : SlAt cTPair V117 (some a117) 1 ([x59] : List TPair) := RowRep.slat (c := cTPair) (V := V117) (cs := [.string ⟨⟨x59.Key⟩⟩, .int .i64 (x59.Val.Kind), .int .i64 (x59.Val.N), .string ⟨⟨x59.Val.S⟩⟩]) ⟨_, _, rfl, rfl, rfl⟩ (VLe.refl _) (fun _ => hd117) (by simp)
        refine Exec.run tyOk 400 rfl ?_
        refine Exec.call rfl rfl (W_clockworkref22_Apply x48.1 ((7 : Int)) (([x59] : List TPair)) h125 h117 hx70) ?_
        rintro V128 _ hv128 ⟨a127, k127, rfl, h127⟩
        have h129 := SlAt.mono h118 hv128
        have h130 := SlAt.mono h119 hv128
        have h131 := SlAt.mono h120 hv128
        have h132 := SlAt.mono h121 hv128
        have h133 := SlAt.mono h122 hv128
        have h134 := SlAt.mono h123 hv128
        have h135 := SlAt.mono h124 hv128
        have h136 := SlAt.mono h125 hv128
        have h137 := SlAt.mono h126 hv128
        have h138 := SlAt.mono h117 hv128
        refine Exec.run tyOk 400 rfl ?_
        exact join [0, 1, 2, 3, 4, 5, 6, 8, 7] (lr' := []) (L' := [(1, .v (.int .i64 (x4.1))), (2, .v (.int .i64 (x4.2))), (3, .v (.slice a17 ((x16.1).length) (k17))), (4, .v (.int .i64 (x16.2))), (6, .v (.int .i64 (x30.2))), (7, .ptr 6 0), (9, .ptr 8 0), (51, .v (.agg ⟨[.int .i64 (x70.1.Floor), .int .i64 (x70.1.Last), .slice a127 ((x70.1.Rows).length) (k127)]⟩)), (52, .v (.int .i64 (x70.2)))]) rfl rfl rfl rfl ⟨⟨_, rfl, rfl⟩, ⟨_, rfl, rfl⟩, ⟨_, rfl, rfl⟩, ⟨_, rfl, rfl⟩, ⟨_, rfl, rfl⟩, ⟨_, rfl, rfl⟩, ⟨_, rfl, rfl⟩, ⟨_, rfl, rfl⟩, ⟨_, rfl, rfl⟩, trivial⟩ trivial ⟨_, _, rfl, rfl, rfl, h129, h127, h136⟩
    · skip
      refine Exec.run tyOk 400 rfl ?_
      refine Exec.callS (.agg ⟨[.string ⟨⟨x59.Key⟩⟩, .int .i64 (x59.Val.Kind), .int .i64 (x59.Val.N), .string ⟨⟨x59.Val.S⟩⟩]⟩) rfl rfl (W_clockworklaw54_pair (([97] : Str)) ((2 : Int))  hx59) ?_
      refine Exec.run tyOk 400 rfl ?_
      refine Exec.bsV tyOk rfl rfl rfl rfl rfl (fun V139 a139 hv139 hd139 => ?_)
      have h140 := SlAt.mono h51 hv139
      have h141 := SlAt.mono h52 hv139
      have h142 := SlAt.mono h53 hv139
      have h143 := SlAt.mono h54 hv139
      have h144 := SlAt.mono h55 hv139
      have h145 := SlAt.mono h56 hv139
      have h146 := SlAt.mono h57 hv139
      have h147 := SlAt.mono h49 hv139
      have h148 := SlAt.mono h58 hv139
      have h139 : SlAt cTPair V139 (some a139) 1 ([x59] : List TPair) := RowRep.slat (c := cTPair) (V := V139) (cs := [.string ⟨⟨x59.Key⟩⟩, .int .i64 (x59.Val.Kind), .int .i64 (x59.Val.N), .string ⟨⟨x59.Val.S⟩⟩]) ⟨_, _, rfl, rfl, rfl⟩ (VLe.refl _) (fun _ => hd139) (by simp)
      refine Exec.run tyOk 400 rfl ?_
      refine Exec.call rfl rfl (W_clockworkref22_Apply x48.1 ((7 : Int)) (([x59] : List TPair)) h147 h139 hx70) ?_
      rintro V150 _ hv150 ⟨a149, k149, rfl, h149⟩
      have h151 := SlAt.mono h140 hv150
      have h152 := SlAt.mono h141 hv150
      have h153 := SlAt.mono h142 hv150
      have h154 := SlAt.mono h143 hv150
      have h155 := SlAt.mono h144 hv150
      have h156 := SlAt.mono h145 hv150
      have h157 := SlAt.mono h146 hv150
      have h158 := SlAt.mono h147 hv150
      have h159 := SlAt.mono h148 hv150
      have h160 := SlAt.mono h139 hv150
      refine Exec.run tyOk 400 rfl ?_
      exact join [0, 1, 2, 3, 4, 5, 6, 8, 7] (lr' := []) (L' := [(1, .v (.int .i64 (x4.1))), (2, .v (.int .i64 (x4.2))), (3, .v (.slice a17 ((x16.1).length) (k17))), (4, .v (.int .i64 (x16.2))), (6, .v (.int .i64 (x30.2))), (7, .ptr 6 0), (9, .ptr 8 0), (51, .v (.agg ⟨[.int .i64 (x70.1.Floor), .int .i64 (x70.1.Last), .slice a149 ((x70.1.Rows).length) (k149)]⟩)), (52, .v (.int .i64 (x70.2)))]) rfl rfl rfl rfl ⟨⟨_, rfl, rfl⟩, ⟨_, rfl, rfl⟩, ⟨_, rfl, rfl⟩, ⟨_, rfl, rfl⟩, ⟨_, rfl, rfl⟩, ⟨_, rfl, rfl⟩, ⟨_, rfl, rfl⟩, ⟨_, rfl, rfl⟩, ⟨_, rfl, rfl⟩, trivial⟩ trivial ⟨_, _, rfl, rfl, rfl, h151, h149, h158⟩
  rintro lr' L' VV161 M' ⟨a71, k71, rfl, rfl, rfl, h162, h163, h164⟩
  refine Exec.run tyOk 400 rfl ?_
  refine Exec.drawsE tyOk [] [] [(0, true)] (by kernel_rfl) ?_
  refine Exec.run tyOk 400 rfl ?_
  obtain ⟨x165, hx165, hF⟩ := bnd_some hF
  obtain ⟨x170, hx170, hF⟩ := bnd_some hF
  refine Exec.forkJ [(8, false), (9, true)] (fun lr' L' V' M' => ∃ (a171 : Option Addr) (k171 : Nat), lr' = [] ∧ L' = [(1, .v (.int .i64 (x4.1))), (2, .v (.int .i64 (x4.2))), (3, .v (.slice a17 ((x16.1).length) (k17))), (4, .v (.int .i64 (x16.2))), (6, .v (.int .i64 (x30.2))), (9, .ptr 8 0), (11, .ptr 10 0), (58, .v (.agg ⟨[.int .i64 (x170.1.Floor), .int .i64 (x170.1.Last), .slice a171 ((x170.1.Rows).length) (k171)]⟩)), (59, .v (.int .i64 (x170.2)))] ∧ M' = [.unk, .unk, .unk, .unk, .unk, .unk, .blk [.v (.int .i64 (x48.1.Floor)), .v (.int .i64 (x48.1.Last)), .v (.slice a49 ((x48.1.Rows).length) (k49))] 40, .unk, .blk [.v (.int .i64 (x70.1.Floor)), .v (.int .i64 (x70.1.Last)), .v (.slice a71 ((x70.1.Rows).length) (k71))] 40, .unk, .blk [.v (.int .i64 (0)), .v (.int .i64 (0)), .v (.slice none (0) (0))] 40] ∧ SlAt cStr V' a17 k17 x16.1 ∧ SlAt cTRow V' a171 k171 x170.1.Rows ∧ SlAt cTRow V' a49 k49 x48.1.Rows ∧ SlAt cTRow V' a71 k71 x70.1.Rows) 2 [true, true, true, true, true, true, true, true, false, false] (by kernel_rfl) (fun join => ?_) ?_
  · skip
    refine Exec.run tyOk 400 rfl ?_
    refine Exec.pick2 (i := 1) (j := 7) [] [(1, false), (2, false), (3, false), (4, true), (5, true), (6, true)] rfl (by kernel_rfl) rfl rfl (by kernel_rfl) (by kernel_rfl) (by kernel_rfl) ?_ ?_
    · skip
      refine Exec.run tyOk 400 rfl ?_
      refine Exec.callS (.agg ⟨[.string ⟨⟨x165.Key⟩⟩, .int .i64 (x165.Val.Kind), .int .i64 (x165.Val.N), .string ⟨⟨x165.Val.S⟩⟩]⟩) rfl rfl (W_clockworklaw54_pair (([97] : Str)) ((3 : Int))  hx165) ?_
      refine Exec.run tyOk 400 rfl ?_
      refine Exec.run tyOk 400 rfl ?_
      refine Exec.pick2 (i := 2) (j := 7) [] [(2, false), (3, false), (4, true), (5, true), (6, true)] rfl (by kernel_rfl) rfl rfl (by kernel_rfl) (by kernel_rfl) (by kernel_rfl) ?_ ?_
      · skip
        refine Exec.run tyOk 400 rfl ?_
        refine Exec.bsV tyOk rfl rfl rfl rfl rfl (fun V177 a177 hv177 hd177 => ?_)
        have h178 := SlAt.mono h162 hv177
        have h179 := SlAt.mono h163 hv177
        have h180 := SlAt.mono h164 hv177
        have h177 : SlAt cTPair V177 (some a177) 1 ([x165] : List TPair) := RowRep.slat (c := cTPair) (V := V177) (cs := [.string ⟨⟨x165.Key⟩⟩, .int .i64 (x165.Val.Kind), .int .i64 (x165.Val.N), .string ⟨⟨x165.Val.S⟩⟩]) ⟨_, _, rfl, rfl, rfl⟩ (VLe.refl _) (fun _ => hd177) (by simp)
        refine Exec.run tyOk 400 rfl ?_
        refine Exec.run tyOk 400 rfl ?_
        refine Exec.pick2 (i := 3) (j := 7) [(4, true), (5, true), (6, true), (7, false)] [(3, false), (4, true), (5, true), (6, true)] rfl (by kernel_rfl) rfl rfl (by kernel_rfl) (by kernel_rfl) (by kernel_rfl) ?_ ?_
        · skip
          refine Exec.run tyOk 400 rfl ?_
          refine Exec.call rfl rfl (W_clockworkref22_Apply x48.1 ((7 : Int)) (([x165] : List TPair)) h180 h177 hx170) ?_
          rintro V182 _ hv182 ⟨a181, k181, rfl, h181⟩
          have h183 := SlAt.mono h178 hv182
          have h184 := SlAt.mono h179 hv182
          have h185 := SlAt.mono h180 hv182
          have h186 := SlAt.mono h177 hv182
          refine Exec.run tyOk 400 rfl ?_
          exact join [0, 1, 2, 3, 4, 5, 6, 7, 8, 9, 10] (lr' := []) (L' := [(1, .v (.int .i64 (x4.1))), (2, .v (.int .i64 (x4.2))), (3, .v (.slice a17 ((x16.1).length) (k17))), (4, .v (.int .i64 (x16.2))), (6, .v (.int .i64 (x30.2))), (9, .ptr 8 0), (11, .ptr 10 0), (58, .v (.agg ⟨[.int .i64 (x170.1.Floor), .int .i64 (x170.1.Last), .slice a181 ((x170.1.Rows).length) (k181)]⟩)), (59, .v (.int .i64 (x170.2)))]) rfl rfl rfl rfl ⟨⟨_, rfl, rfl⟩, ⟨_, rfl, rfl⟩, ⟨_, rfl, rfl⟩, ⟨_, rfl, rfl⟩, ⟨_, rfl, rfl⟩, ⟨_, rfl, rfl⟩, ⟨_, rfl, rfl⟩, ⟨_, rfl, rfl⟩, ⟨_, rfl, rfl⟩, trivial⟩ trivial ⟨_, _, rfl, rfl, rfl, h183, h181, h185, h184⟩
        · skip
          refine Exec.run tyOk 400 rfl ?_
          refine Exec.call rfl rfl (W_clockworkref22_Apply x48.1 ((7 : Int)) (([x165] : List TPair)) h180 h177 hx170) ?_
          rintro V188 _ hv188 ⟨a187, k187, rfl, h187⟩
          have h189 := SlAt.mono h178 hv188
          have h190 := SlAt.mono h179 hv188
          have h191 := SlAt.mono h180 hv188
          have h192 := SlAt.mono h177 hv188
          refine Exec.run tyOk 400 rfl ?_
          exact join [0, 1, 2, 3, 4, 5, 6, 7, 8, 9, 10] (lr' := []) (L' := [(1, .v (.int .i64 (x4.1))), (2, .v (.int .i64 (x4.2))), (3, .v (.slice a17 ((x16.1).length) (k17))), (4, .v (.int .i64 (x16.2))), (6, .v (.int .i64 (x30.2))), (9, .ptr 8 0), (11, .ptr 10 0), (58, .v (.agg ⟨[.int .i64 (x170.1.Floor), .int .i64 (x170.1.Last), .slice a187 ((x170.1.Rows).length) (k187)]⟩)), (59, .v (.int .i64 (x170.2)))]) rfl rfl rfl rfl ⟨⟨_, rfl, rfl⟩, ⟨_, rfl, rfl⟩, ⟨_, rfl, rfl⟩, ⟨_, rfl, rfl⟩, ⟨_, rfl, rfl⟩, ⟨_, rfl, rfl⟩, ⟨_, rfl, rfl⟩, ⟨_, rfl, rfl⟩, ⟨_, rfl, rfl⟩, trivial⟩ trivial ⟨_, _, rfl, rfl, rfl, h189, h187, h191, h190⟩
      · skip
        refine Exec.run tyOk 400 rfl ?_
        refine Exec.bsV tyOk rfl rfl rfl rfl rfl (fun V193 a193 hv193 hd193 => ?_)
        have h194 := SlAt.mono h162 hv193
        have h195 := SlAt.mono h163 hv193
        have h196 := SlAt.mono h164 hv193
        have h193 : SlAt cTPair V193 (some a193) 1 ([x165] : List TPair) := RowRep.slat (c := cTPair) (V := V193) (cs := [.string ⟨⟨x165.Key⟩⟩, .int .i64 (x165.Val.Kind), .int .i64 (x165.Val.N), .string ⟨⟨x165.Val.S⟩⟩]) ⟨_, _, rfl, rfl, rfl⟩ (VLe.refl _) (fun _ => hd193) (by simp)
        refine Exec.run tyOk 400 rfl ?_
        refine Exec.call rfl rfl (W_clockworkref22_Apply x48.1 ((7 : Int)) (([x165] : List TPair)) h196 h193 hx170) ?_
        rintro V198 _ hv198 ⟨a197, k197, rfl, h197⟩
        have h199 := SlAt.mono h194 hv198
        have h200 := SlAt.mono h195 hv198
        have h201 := SlAt.mono h196 hv198
        have h202 := SlAt.mono h193 hv198
        refine Exec.run tyOk 400 rfl ?_
        exact join [0, 1, 2, 3, 4, 5, 6, 7, 8, 10, 9] (lr' := []) (L' := [(1, .v (.int .i64 (x4.1))), (2, .v (.int .i64 (x4.2))), (3, .v (.slice a17 ((x16.1).length) (k17))), (4, .v (.int .i64 (x16.2))), (6, .v (.int .i64 (x30.2))), (9, .ptr 8 0), (11, .ptr 10 0), (58, .v (.agg ⟨[.int .i64 (x170.1.Floor), .int .i64 (x170.1.Last), .slice a197 ((x170.1.Rows).length) (k197)]⟩)), (59, .v (.int .i64 (x170.2)))]) rfl rfl rfl rfl ⟨⟨_, rfl, rfl⟩, ⟨_, rfl, rfl⟩, ⟨_, rfl, rfl⟩, ⟨_, rfl, rfl⟩, ⟨_, rfl, rfl⟩, ⟨_, rfl, rfl⟩, ⟨_, rfl, rfl⟩, ⟨_, rfl, rfl⟩, ⟨_, rfl, rfl⟩, trivial⟩ trivial ⟨_, _, rfl, rfl, rfl, h199, h197, h201, h200⟩
    · skip
      refine Exec.run tyOk 400 rfl ?_
      refine Exec.callS (.agg ⟨[.string ⟨⟨x165.Key⟩⟩, .int .i64 (x165.Val.Kind), .int .i64 (x165.Val.N), .string ⟨⟨x165.Val.S⟩⟩]⟩) rfl rfl (W_clockworklaw54_pair (([97] : Str)) ((3 : Int))  hx165) ?_
      refine Exec.run tyOk 400 rfl ?_
      refine Exec.bsV tyOk rfl rfl rfl rfl rfl (fun V203 a203 hv203 hd203 => ?_)
      have h204 := SlAt.mono h162 hv203
      have h205 := SlAt.mono h163 hv203
      have h206 := SlAt.mono h164 hv203
      have h203 : SlAt cTPair V203 (some a203) 1 ([x165] : List TPair) := RowRep.slat (c := cTPair) (V := V203) (cs := [.string ⟨⟨x165.Key⟩⟩, .int .i64 (x165.Val.Kind), .int .i64 (x165.Val.N), .string ⟨⟨x165.Val.S⟩⟩]) ⟨_, _, rfl, rfl, rfl⟩ (VLe.refl _) (fun _ => hd203) (by simp)
      refine Exec.run tyOk 400 rfl ?_
      refine Exec.call rfl rfl (W_clockworkref22_Apply x48.1 ((7 : Int)) (([x165] : List TPair)) h206 h203 hx170) ?_
      rintro V208 _ hv208 ⟨a207, k207, rfl, h207⟩
      have h209 := SlAt.mono h204 hv208
      have h210 := SlAt.mono h205 hv208
      have h211 := SlAt.mono h206 hv208
      have h212 := SlAt.mono h203 hv208
      refine Exec.run tyOk 400 rfl ?_
      exact join [0, 1, 2, 3, 4, 5, 6, 7, 8, 10, 9] (lr' := []) (L' := [(1, .v (.int .i64 (x4.1))), (2, .v (.int .i64 (x4.2))), (3, .v (.slice a17 ((x16.1).length) (k17))), (4, .v (.int .i64 (x16.2))), (6, .v (.int .i64 (x30.2))), (9, .ptr 8 0), (11, .ptr 10 0), (58, .v (.agg ⟨[.int .i64 (x170.1.Floor), .int .i64 (x170.1.Last), .slice a207 ((x170.1.Rows).length) (k207)]⟩)), (59, .v (.int .i64 (x170.2)))]) rfl rfl rfl rfl ⟨⟨_, rfl, rfl⟩, ⟨_, rfl, rfl⟩, ⟨_, rfl, rfl⟩, ⟨_, rfl, rfl⟩, ⟨_, rfl, rfl⟩, ⟨_, rfl, rfl⟩, ⟨_, rfl, rfl⟩, ⟨_, rfl, rfl⟩, ⟨_, rfl, rfl⟩, trivial⟩ trivial ⟨_, _, rfl, rfl, rfl, h209, h207, h211, h210⟩
  rintro lr' L' VV213 M' ⟨a171, k171, rfl, rfl, rfl, h214, h215, h216, h217⟩
  refine Exec.run tyOk 400 rfl ?_
  obtain ⟨x218, hx218, hF⟩ := bnd_some hF
  refine Exec.callS (.tuple ⟨[.int .i64 (x218.1), .int .i64 (x218.2)]⟩) rfl rfl (W_verify_Stores x70.1 x170.1 h217 h215 hx218) ?_
  refine Exec.run tyOk 400 rfl ?_
  obtain ⟨x219, hx219, hF⟩ := bnd_some hF
  refine Exec.callS (.tuple ⟨[.int .i64 (x219.1), .int .i64 (x219.2)]⟩) rfl rfl (W_verify_Stores x70.1 x70.1 h217 h217 hx219) ?_
  refine Exec.run tyOk 400 rfl ?_
  obtain ⟨x220, hx220, hF⟩ := bnd_some hF
  refine Exec.callS (.agg ⟨[.string ⟨⟨x220.Key⟩⟩, .int .i64 (x220.Val.Kind), .int .i64 (x220.Val.N), .string ⟨⟨x220.Val.S⟩⟩]⟩) rfl rfl (W_clockworklaw54_pair (([97] : Str)) ((1 : Int))  hx220) ?_
  refine Exec.run tyOk 400 rfl ?_
  refine Exec.bsV tyOk rfl rfl rfl rfl rfl (fun V221 a221 hv221 hd221 => ?_)
  have h222 := SlAt.mono h214 hv221
  have h223 := SlAt.mono h215 hv221
  have h224 := SlAt.mono h217 hv221
  have h225 := SlAt.mono h216 hv221
  have h221 : SlAt cTPair V221 (some a221) 1 ([x220] : List TPair) := RowRep.slat (c := cTPair) (V := V221) (cs := [.string ⟨⟨x220.Key⟩⟩, .int .i64 (x220.Val.Kind), .int .i64 (x220.Val.N), .string ⟨⟨x220.Val.S⟩⟩]) ⟨_, _, rfl, rfl, rfl⟩ (VLe.refl _) (fun _ => hd221) (by simp)
  refine Exec.run tyOk 400 rfl ?_
  refine Exec.bsV tyOk rfl rfl rfl rfl rfl (fun V226 a226 hv226 hd226 => ?_)
  have h227 := SlAt.mono h222 hv226
  have h228 := SlAt.mono h223 hv226
  have h229 := SlAt.mono h224 hv226
  have h230 := SlAt.mono h221 hv226
  have h231 := SlAt.mono h225 hv226
  have h226 : SlAt (cSl cTPair) V226 (some a226) 3 ([([] : List TPair), ([x220] : List TPair), ([] : List TPair)] : List (List TPair)) := RowRep.slat (c := (cSl cTPair)) (V := V226) (cs := [.slice none (0) (0), .slice ((some a221)) (1) (1), .slice none (0) (0)]) ⟨_, _, rfl, ⟨_, _, rfl, SlAt.nil⟩, ⟨_, _, rfl, ⟨_, _, rfl, (SlAt.mono h221 hv226)⟩, ⟨_, _, rfl, ⟨_, _, rfl, SlAt.nil⟩, rfl⟩⟩⟩ (VLe.refl _) (fun _ => hd226) (by simp)
  refine Exec.run tyOk 400 rfl ?_
  obtain ⟨x232, hx232, hF⟩ := bnd_some hF
  refine Exec.call rfl rfl (W_verify_History (([([] : List TPair), ([x220] : List TPair), ([] : List TPair)] : List (List TPair))) h226 hx232) ?_
  rintro V234 _ hv234 ⟨a233, k233, rfl, h233⟩
  have h235 := SlAt.mono h227 hv234
  have h236 := SlAt.mono h228 hv234
  have h237 := SlAt.mono h229 hv234
  have h238 := SlAt.mono h230 hv234
  have h239 := SlAt.mono h226 hv234
  have h240 := SlAt.mono h231 hv234
  refine Exec.run tyOk 400 rfl ?_
  refine Exec.draws tyOk [(0, true), (1, true), (2, true), (3, true), (4, true), (5, true), (6, true), (7, true), (8, true), (9, true), (10, true), (11, true), (12, true), (13, true), (14, true), (15, true), (16, true), (17, true), (18, true), (19, true), (20, true)] rfl (by kernel_rfl) ?_
  refine Exec.run tyOk 400 rfl ?_
  obtain ⟨q241, hF⟩ := req_some hF
  obtain ⟨c242, hr242, hd242⟩ := SlAt.gget ((((((x232).length : Nat) : Int) != (3 : Int))) == false) h233 q241
  obtain rfl := hr242
  refine Exec.fia tyOk rfl rfl rfl (fun gg0 => ⟨(q241 (gd1_of gg0)).1, (q241 (gd1_of gg0)).2, (hd242 (gd1_of gg0)).some⟩) ?_
  refine Exec.run tyOk 400 rfl ?_
  refine Exec.fld tyOk (x := .int .u64 ((cond ((((((x232).length : Nat) : Int) != (3 : Int))) == false) (atI x232 ((0 : Int))) default))) rfl rfl rfl (fun gg0 => (hd242 (gd1_of gg0))) rfl rfl ?_
  refine Exec.run tyOk 400 rfl ?_
  obtain ⟨q243, hF⟩ := req_some hF
  obtain ⟨c244, hr244, hd244⟩ := SlAt.gget ((((((x232).length : Nat) : Int) != (3 : Int))) == false) h233 q243
  obtain rfl := hr244
  refine Exec.fia tyOk rfl rfl rfl (fun gg0 => ⟨(q243 (gd1_of gg0)).1, (q243 (gd1_of gg0)).2, (hd244 (gd1_of gg0)).some⟩) ?_
  refine Exec.run tyOk 400 rfl ?_
  refine Exec.fld tyOk (x := .int .u64 ((cond ((((((x232).length : Nat) : Int) != (3 : Int))) == false) (atI x232 ((2 : Int))) default))) rfl rfl rfl (fun gg0 => (hd244 (gd1_of gg0))) rfl rfl ?_
  refine Exec.run tyOk 400 rfl ?_
  obtain ⟨q245, hF⟩ := req_some hF
  obtain ⟨c246, hr246, hd246⟩ := SlAt.gget (((((((x232).length : Nat) : Int) != (3 : Int)) || ((cond ((((((x232).length : Nat) : Int) != (3 : Int))) == false) (atI x232 ((0 : Int))) default) != (cond ((((((x232).length : Nat) : Int) != (3 : Int))) == false) (atI x232 ((2 : Int))) default)))) == false) h233 q245
  obtain rfl := hr246
  refine Exec.fia tyOk rfl rfl rfl (fun gg0 => ⟨(q245 (gd1_of gg0)).1, (q245 (gd1_of gg0)).2, (hd246 (gd1_of gg0)).some⟩) ?_
  refine Exec.run tyOk 400 rfl ?_
  refine Exec.fld tyOk (x := .int .u64 ((cond (((((((x232).length : Nat) : Int) != (3 : Int)) || ((cond ((((((x232).length : Nat) : Int) != (3 : Int))) == false) (atI x232 ((0 : Int))) default) != (cond ((((((x232).length : Nat) : Int) != (3 : Int))) == false) (atI x232 ((2 : Int))) default)))) == false) (atI x232 ((0 : Int))) default))) rfl rfl rfl (fun gg0 => (hd246 (gd1_of gg0))) rfl rfl ?_
  refine Exec.run tyOk 400 rfl ?_
  obtain ⟨q247, hF⟩ := req_some hF
  obtain ⟨c248, hr248, hd248⟩ := SlAt.gget (((((((x232).length : Nat) : Int) != (3 : Int)) || ((cond ((((((x232).length : Nat) : Int) != (3 : Int))) == false) (atI x232 ((0 : Int))) default) != (cond ((((((x232).length : Nat) : Int) != (3 : Int))) == false) (atI x232 ((2 : Int))) default)))) == false) h233 q247
  obtain rfl := hr248
  refine Exec.fia tyOk rfl rfl rfl (fun gg0 => ⟨(q247 (gd1_of gg0)).1, (q247 (gd1_of gg0)).2, (hd248 (gd1_of gg0)).some⟩) ?_
  refine Exec.run tyOk 400 rfl ?_
  refine Exec.fld tyOk (x := .int .u64 ((cond (((((((x232).length : Nat) : Int) != (3 : Int)) || ((cond ((((((x232).length : Nat) : Int) != (3 : Int))) == false) (atI x232 ((0 : Int))) default) != (cond ((((((x232).length : Nat) : Int) != (3 : Int))) == false) (atI x232 ((2 : Int))) default)))) == false) (atI x232 ((1 : Int))) default))) rfl rfl rfl (fun gg0 => (hd248 (gd1_of gg0))) rfl rfl ?_
  refine Exec.run tyOk 400 rfl ?_
  rcases cond_some hF with ⟨hb, hF⟩ | ⟨hb, hF⟩
  · skip
    refine Exec.ifT rfl hb ?_
    refine Exec.run tyOk 400 rfl ?_
    obtain rfl := some_inj hF
    exact Exec.ret tyOk rfl rfl rfl
  · skip
    refine Exec.ifF rfl hb ?_
    refine Exec.run tyOk 400 rfl ?_
    refine Exec.bsV tyOk rfl rfl rfl rfl rfl (fun V249 a249 hv249 hd249 => ?_)
    have h250 := SlAt.mono h235 hv249
    have h251 := SlAt.mono h233 hv249
    have h252 := SlAt.mono h236 hv249
    have h253 := SlAt.mono h237 hv249
    have h254 := SlAt.mono h238 hv249
    have h255 := SlAt.mono h239 hv249
    have h256 := SlAt.mono h240 hv249
    have h249 : SlAt (cInt .u64) V249 (some a249) 3 ([(1 : Int), (2 : Int), (3 : Int)] : List Int) := RowRep.slat (c := (cInt .u64)) (V := V249) (cs := [.int .u64 ((1 : Int)), .int .u64 ((2 : Int)), .int .u64 ((3 : Int))]) ⟨_, _, rfl, rfl, ⟨_, _, rfl, rfl, ⟨_, _, rfl, rfl, rfl⟩⟩⟩ (VLe.refl _) (fun _ => hd249) (by simp)
    refine Exec.run tyOk 400 rfl ?_
    refine Exec.bsV tyOk rfl rfl rfl rfl rfl (fun V257 a257 hv257 hd257 => ?_)
    have h258 := SlAt.mono h250 hv257
    have h259 := SlAt.mono h251 hv257
    have h260 := SlAt.mono h252 hv257
    have h261 := SlAt.mono h253 hv257
    have h262 := SlAt.mono h254 hv257
    have h263 := SlAt.mono h255 hv257
    have h264 := SlAt.mono h249 hv257
    have h265 := SlAt.mono h256 hv257
    have h257 : SlAt (cInt .u64) V257 (some a257) 3 ([(1 : Int), (2 : Int), (4 : Int)] : List Int) := RowRep.slat (c := (cInt .u64)) (V := V257) (cs := [.int .u64 ((1 : Int)), .int .u64 ((2 : Int)), .int .u64 ((4 : Int))]) ⟨_, _, rfl, rfl, ⟨_, _, rfl, rfl, ⟨_, _, rfl, rfl, rfl⟩⟩⟩ (VLe.refl _) (fun _ => hd257) (by simp)
    refine Exec.run tyOk 400 rfl ?_
    obtain ⟨x266, hx266, hF⟩ := bnd_some hF
    refine Exec.callS (.int .i64 (x266)) rfl rfl (W_verify_First (([(1 : Int), (2 : Int), (3 : Int)] : List Int)) (([(1 : Int), (2 : Int), (4 : Int)] : List Int)) h264 h257 hx266) ?_
    refine Exec.run tyOk 400 rfl ?_
    refine Exec.gbsV tyOk rfl rfl rfl rfl (fun V267 a267 hv267 hg267 => ?_) rfl
    have h268 := SlAt.mono h258 hv267
    have h269 := SlAt.mono h259 hv267
    have h270 := SlAt.mono h260 hv267
    have h271 := SlAt.mono h261 hv267
    have h272 := SlAt.mono h262 hv267
    have h273 := SlAt.mono h263 hv267
    have h274 := SlAt.mono h264 hv267
    have h275 := SlAt.mono h257 hv267
    have h276 := SlAt.mono h265 hv267
    have h267 : ((x266 == (2 : Int))) = true → SlAt (cInt .u64) V267 ((some a267)) 1 (([(1 : Int)] : List Int)) := fun gg0 => RowRep.slat (c := (cInt .u64)) (V := V267) (cs := [.int .u64 ((1 : Int))]) ⟨_, _, rfl, rfl, rfl⟩ (VLe.refl _) (fun _ => hg267 gg0) (by simp)
    refine Exec.run tyOk 400 rfl ?_
    refine Exec.gbsV tyOk rfl rfl rfl rfl (fun V277 a277 hv277 hg277 => ?_) rfl
    have h278 := SlAt.mono h268 hv277
    have h279 := SlAt.mono h269 hv277
    have h280 := SlAt.mono h270 hv277
    have h281 := SlAt.mono h271 hv277
    have h282 := SlAt.mono h272 hv277
    have h283 := SlAt.mono h273 hv277
    have h284 := SlAt.mono h274 hv277
    have h285 := SlAt.mono h275 hv277
    have h286 : ((x266 == (2 : Int))) = true → SlAt (cInt .u64) V277 ((some a267)) 1 (([(1 : Int)] : List Int)) := fun gg0 => SlAt.mono (h267 gg0) hv277
    have h287 := SlAt.mono h276 hv277
    have h277 : ((x266 == (2 : Int))) = true → SlAt (cInt .u64) V277 ((some a277)) 2 (([(1 : Int), (2 : Int)] : List Int)) := fun gg0 => RowRep.slat (c := (cInt .u64)) (V := V277) (cs := [.int .u64 ((1 : Int)), .int .u64 ((2 : Int))]) ⟨_, _, rfl, rfl, ⟨_, _, rfl, rfl, rfl⟩⟩ (VLe.refl _) (fun _ => hg277 gg0) (by simp)
    refine Exec.run tyOk 400 rfl ?_
    obtain ⟨x288, hx288, hF⟩ := bnd_some hF
    refine Exec.callS (.int .i64 (x288)) rfl rfl (fun gg0 => W_verify_First (([(1 : Int)] : List Int)) (([(1 : Int), (2 : Int)] : List Int)) (h286 gg0) (h277 gg0) (gcall_some hx288 (gd1_of gg0))) ?_
    refine Exec.run tyOk 400 rfl ?_
    obtain ⟨x289, hx289, hF⟩ := bnd_some hF
    refine Exec.callS (.int .i64 (x289)) rfl rfl (fun gg0 => W_verify_First (([] : List Int)) (([] : List Int)) SlAt.nil SlAt.nil (gcall_some hx289 (gd1_of gg0))) ?_
    refine Exec.run tyOk 400 rfl ?_
    refine Exec.gbsV tyOk rfl rfl rfl rfl (fun V290 a290 hv290 hg290 => ?_) rfl
    have h291 := SlAt.mono h278 hv290
    have h292 := SlAt.mono h279 hv290
    have h293 := SlAt.mono h280 hv290
    have h294 := SlAt.mono h281 hv290
    have h295 := SlAt.mono h282 hv290
    have h296 := SlAt.mono h283 hv290
    have h297 := SlAt.mono h284 hv290
    have h298 := SlAt.mono h285 hv290
    have h299 : ((x266 == (2 : Int))) = true → SlAt (cInt .u64) V290 ((some a267)) 1 (([(1 : Int)] : List Int)) := fun gg0 => SlAt.mono (h286 gg0) hv290
    have h300 : ((x266 == (2 : Int))) = true → SlAt (cInt .u64) V290 ((some a277)) 2 (([(1 : Int), (2 : Int)] : List Int)) := fun gg0 => SlAt.mono (h277 gg0) hv290
    have h301 := SlAt.mono h287 hv290
    have h290 : (((((((x266 == (2 : Int)) && (x288 == (1 : Int))) && (x289 == (-1 : Int))) && (x4.1 == (2 : Int))) && (x4.2 == (3 : Int))) && (x16.2 == (0 : Int)))) = true → SlAt cStr V290 ((some a290)) 2 (([([97] : Str), ([99] : Str)] : List Str)) := fun gg0 => RowRep.slat (c := cStr) (V := V290) (cs := [.string ⟨⟨([97] : Str)⟩⟩, .string ⟨⟨([99] : Str)⟩⟩]) ⟨_, _, rfl, rfl, ⟨_, _, rfl, rfl, rfl⟩⟩ (VLe.refl _) (fun _ => hg290 gg0) (by simp)
    refine Exec.run tyOk 400 rfl ?_
    obtain ⟨x302, hx302, hF⟩ := bnd_some hF
    refine Exec.callS (.bool (x302)) rfl rfl (fun gg0 => W_clockworkref04_Same x16.1 (([([97] : Str), ([99] : Str)] : List Str)) h291 (h290 gg0) (gcall_some hx302 (gd1_of gg0))) ?_
    refine Exec.run tyOk 400 rfl ?_
    obtain rfl := some_inj hF
    exact Exec.ret tyOk rfl rfl rfl

def F_clockworklaw54_VerifyHistories_L1 (x1 : List (List TPair)) (J4 : Option Bool) : Nat → Int → Option Bool
  | 0, _ => none
  | n19 + 1, x18 => (cond (decide (x18 < (((x1).length : Nat) : Int))) (req (0 ≤ x18 ∧ x18 < ((x1).length : Int)) (cond (decide ((60 : Int) < ((((atI x1 x18)).length : Nat) : Int))) (bnd (F_clockworklaw54_works ) fun x25 => (some x25)) (F_clockworklaw54_VerifyHistories_L1 x1 J4 n19 ((IntKind.i64.wrap (x18 + (1 : Int))))))) J4)

def F_clockworklaw54_VerifyHistories (x1 : List (List TPair)) : Option Bool :=
  (cond (decide ((20 : Int) < (((x1).length : Nat) : Int))) (bnd (F_clockworklaw54_works ) fun x3 => (some x3)) (jn ((bnd (F_verify_History x1) fun x7 => (bnd (F_clockworkref54_History x1) fun x11 => (bnd (F_clockworklaw54_numbers x7 x11) fun x16 => (bnd (gcall ((x16) == true) (F_clockworklaw54_works )) fun x17 => (some (x16 && x17))))))) (fun J4 => (F_clockworklaw54_VerifyHistories_L1 x1 J4 (((((x1).length : Nat) : Int)).toNat + 1) ((0 : Int))))))

set_option maxRecDepth 100000 in
theorem W_clockworklaw54_VerifyHistories {V : View} (x1 : List (List TPair)) {a2 : Option Addr} {k2 : Nat} (h2 : SlAt (cSl cTPair) V a2 k2 x1) {r : Bool} (hF : F_clockworklaw54_VerifyHistories x1 = some r) :
    Spec Tryz.prog 3 [.slice a2 ((x1).length) (k2)] V (fun _ v => v = .bool (r)) := by
  unfold F_clockworklaw54_VerifyHistories at hF
  refine Spec.enter (T := tyT) Tryz.func3 rfl (by kernel_rfl) rfl rfl rfl ?_
  refine Exec.run tyOk 400 rfl ?_
  rcases cond_some hF with ⟨hb, hF⟩ | ⟨hb, hF⟩
  · skip
    refine Exec.ifT rfl hb ?_
    refine Exec.run tyOk 400 rfl ?_
    obtain ⟨x3, hx3, hF⟩ := bnd_some hF
    refine Exec.callS (.bool (x3)) rfl rfl (W_clockworklaw54_works   hx3) ?_
    refine Exec.run tyOk 400 rfl ?_
    obtain rfl := some_inj hF
    exact Exec.ret tyOk rfl rfl rfl
  · skip
    refine Exec.ifF rfl hb ?_
    refine Exec.run tyOk 6 rfl ?_
    obtain ⟨J4, hJ4, hF⟩ := jn_some hF
    refine Exec.seam (fun L' V' M' => L' = [(0, .v (.slice a2 ((x1).length) (k2)))] ∧ M' = [] ∧ SlAt (cSl cTPair) V' a2 k2 x1 ∧ J4 = some r) rfl ?_ ?_
    · rintro L' V5 M' ⟨rfl, rfl, h6, hF⟩
      subst hJ4
      refine Exec.run tyOk 400 rfl ?_
      obtain ⟨x7, hx7, hF⟩ := bnd_some hF
      refine Exec.call rfl rfl (W_verify_History x1 h6 hx7) ?_
      rintro V9 _ hv9 ⟨a8, k8, rfl, h8⟩
      have h10 := SlAt.mono h6 hv9
      refine Exec.run tyOk 400 rfl ?_
      obtain ⟨x11, hx11, hF⟩ := bnd_some hF
      refine Exec.call rfl rfl (W_clockworkref54_History x1 h10 hx11) ?_
      rintro V13 _ hv13 ⟨a12, k12, rfl, h12⟩
      have h14 := SlAt.mono h10 hv13
      have h15 := SlAt.mono h8 hv13
      refine Exec.run tyOk 400 rfl ?_
      obtain ⟨x16, hx16, hF⟩ := bnd_some hF
      refine Exec.callS (.bool (x16)) rfl rfl (W_clockworklaw54_numbers x7 x11 h15 h12 hx16) ?_
      refine Exec.run tyOk 400 rfl ?_
      obtain ⟨x17, hx17, hF⟩ := bnd_some hF
      refine Exec.callS (.bool (x17)) rfl rfl (fun gg0 => W_clockworklaw54_works   (gcall_some hx17 (gd1_of gg0))) ?_
      refine Exec.run tyOk 400 rfl ?_
      obtain rfl := some_inj hF
      exact Exec.ret tyOk rfl rfl rfl
    · skip
      refine Exec.run tyOk 400 rfl ?_
      refine Exec.loop (fun n19 L' V' M' => ∃ (x18 : Int), L' = [(0, .v (.slice a2 ((x1).length) (k2))), (3, .v (.int .i64 (x18)))] ∧ M' = [] ∧ SlAt (cSl cTPair) V' a2 k2 x1 ∧ F_clockworklaw54_VerifyHistories_L1 x1 J4 n19 x18 = some r) ⟨(((((x1).length : Nat) : Int)).toNat + 1), [(0, .v (.slice a2 ((x1).length) (k2))), (3, .v (.int .i64 ((0 : Int))))], ⟨rfl, rfl, trivial⟩, (0 : Int), rfl, rfl, h2, hF⟩ ?_
      rintro n19 L' V20 M' ⟨x18, rfl, rfl, h21, hF⟩
      rcases n19 with _ | n19
      · exact absurd hF (by simp [F_clockworklaw54_VerifyHistories_L1])
      rw [F_clockworklaw54_VerifyHistories_L1] at hF
      refine Exec.run tyOk 400 rfl ?_
      rcases cond_some hF with ⟨hb, hF⟩ | ⟨hb, hF⟩
      · skip
        refine Exec.ifT rfl hb ?_
        refine Exec.run tyOk 400 rfl ?_
        obtain ⟨q22, hF⟩ := req_some hF
        obtain ⟨c23, hr23, hd23⟩ := SlAt.get h21 q22
        obtain ⟨a24, k24, rfl, h24⟩ := hr23
        refine Exec.ia tyOk rfl rfl ⟨q22.1, q22.2, hd23.some⟩ ?_
        refine Exec.run tyOk 400 rfl ?_
        refine Exec.ld tyOk (x := .slice a24 (((atI x1 x18)).length) (k24)) rfl rfl hd23 rfl rfl ?_
        refine Exec.run tyOk 400 rfl ?_
        rcases cond_some hF with ⟨hb, hF⟩ | ⟨hb, hF⟩
        · skip
          refine Exec.ifT rfl hb ?_
          refine Exec.run tyOk 400 rfl ?_
          obtain ⟨x25, hx25, hF⟩ := bnd_some hF
          refine Exec.callS (.bool (x25)) rfl rfl (W_clockworklaw54_works   hx25) ?_
          refine Exec.run tyOk 400 rfl ?_
          obtain rfl := some_inj hF
          exact Exec.ret tyOk rfl rfl rfl
        · skip
          refine Exec.ifF rfl hb ?_
          refine Exec.run tyOk 400 rfl ?_
          exact Exec.round [(0, .v (.slice a2 ((x1).length) (k2))), (3, .v (.int .i64 ((IntKind.i64.wrap (x18 + (1 : Int))))))] ⟨rfl, rfl, trivial⟩ ⟨n19, Nat.lt_succ_self _, (IntKind.i64.wrap (x18 + (1 : Int))), rfl, rfl, h21, hF⟩
      · skip
        refine Exec.ifF rfl hb ?_
        refine Exec.run tyOk 400 rfl ?_
        exact Exec.round [(0, .v (.slice a2 ((x1).length) (k2)))] ⟨rfl, trivial⟩ ⟨rfl, rfl, h21, hF⟩

def F_clockworklaw54_VerifyFirsts (x1 : List Int) (x3 : List Int) : Option Bool :=
  (cond ((decide ((300 : Int) < (((x1).length : Nat) : Int))) || (decide ((300 : Int) < (((x3).length : Nat) : Int)))) (bnd (F_clockworklaw54_works ) fun x5 => (some x5)) (bnd (F_verify_Bisect x1 x3) fun x6 => (bnd (F_clockworkref54_Bisect x1 x3) fun x7 => (bnd (F_verify_First x1 x3) fun x8 => (bnd (F_clockworkref54_First x1 x3) fun x9 => (bnd (gcall (((((x8 == x9) && (x6.1 == x7.1)) && (x6.2 == x7.2))) == true) (F_clockworklaw54_works )) fun x10 => (some ((((x8 == x9) && (x6.1 == x7.1)) && (x6.2 == x7.2)) && x10))))))))

set_option maxRecDepth 100000 in
theorem W_clockworklaw54_VerifyFirsts {V : View} (x1 : List Int) (x3 : List Int) {a2 : Option Addr} {k2 : Nat} {a4 : Option Addr} {k4 : Nat} (h2 : SlAt (cInt .u64) V a2 k2 x1) (h4 : SlAt (cInt .u64) V a4 k4 x3) {r : Bool} (hF : F_clockworklaw54_VerifyFirsts x1 x3 = some r) :
    Spec Tryz.prog 4 [.slice a2 ((x1).length) (k2), .slice a4 ((x3).length) (k4)] V (fun _ v => v = .bool (r)) := by
  unfold F_clockworklaw54_VerifyFirsts at hF
  refine Spec.enter (T := tyT) Tryz.func4 rfl (by kernel_rfl) rfl rfl rfl ?_
  refine Exec.run tyOk 400 rfl ?_
  rcases cond_some hF with ⟨hb, hF⟩ | ⟨hb, hF⟩
  · skip
    refine Exec.ifT rfl hb ?_
    refine Exec.run tyOk 400 rfl ?_
    obtain ⟨x5, hx5, hF⟩ := bnd_some hF
    refine Exec.callS (.bool (x5)) rfl rfl (W_clockworklaw54_works   hx5) ?_
    refine Exec.run tyOk 400 rfl ?_
    obtain rfl := some_inj hF
    exact Exec.ret tyOk rfl rfl rfl
  · skip
    refine Exec.ifF rfl hb ?_
    refine Exec.run tyOk 400 rfl ?_
    obtain ⟨x6, hx6, hF⟩ := bnd_some hF
    refine Exec.callS (.tuple ⟨[.int .i64 (x6.1), .int .i64 (x6.2)]⟩) rfl rfl (W_verify_Bisect x1 x3 h2 h4 hx6) ?_
    refine Exec.run tyOk 400 rfl ?_
    obtain ⟨x7, hx7, hF⟩ := bnd_some hF
    refine Exec.callS (.tuple ⟨[.int .i64 (x7.1), .int .i64 (x7.2)]⟩) rfl rfl (W_clockworkref54_Bisect x1 x3 h2 h4 hx7) ?_
    refine Exec.run tyOk 400 rfl ?_
    obtain ⟨x8, hx8, hF⟩ := bnd_some hF
    refine Exec.callS (.int .i64 (x8)) rfl rfl (W_verify_First x1 x3 h2 h4 hx8) ?_
    refine Exec.run tyOk 400 rfl ?_
    obtain ⟨x9, hx9, hF⟩ := bnd_some hF
    refine Exec.callS (.int .i64 (x9)) rfl rfl (W_clockworkref54_First x1 x3 h2 h4 hx9) ?_
    refine Exec.run tyOk 400 rfl ?_
    obtain ⟨x10, hx10, hF⟩ := bnd_some hF
    refine Exec.callS (.bool (x10)) rfl rfl (fun gg0 => W_clockworklaw54_works   (gcall_some hx10 (gd1_of gg0))) ?_
    refine Exec.run tyOk 400 rfl ?_
    obtain rfl := some_inj hF
    exact Exec.ret tyOk rfl rfl rfl

def F_clockworklaw54_VerifyCompares (x1 : List TPair) (x3 : List TPair) : Option Bool :=
  (cond ((decide ((60 : Int) < (((x1).length : Nat) : Int))) || (decide ((60 : Int) < (((x3).length : Nat) : Int)))) (bnd (F_clockworklaw54_works ) fun x5 => (some x5)) (bnd (F_verify_Compare x1 x3) fun x6 => (bnd (F_clockworkref54_Compare x1 x3) fun x11 => (bnd (F_clockworkref04_Same x6.1 x11.1) fun x17 => (bnd (gcall (((x17 && (x6.2 == x11.2))) == true) (F_clockworklaw54_works )) fun x18 => (some ((x17 && (x6.2 == x11.2)) && x18)))))))

set_option maxRecDepth 100000 in
theorem W_clockworklaw54_VerifyCompares {V : View} (x1 : List TPair) (x3 : List TPair) {a2 : Option Addr} {k2 : Nat} {a4 : Option Addr} {k4 : Nat} (h2 : SlAt cTPair V a2 k2 x1) (h4 : SlAt cTPair V a4 k4 x3) {r : Bool} (hF : F_clockworklaw54_VerifyCompares x1 x3 = some r) :
    Spec Tryz.prog 5 [.slice a2 ((x1).length) (k2), .slice a4 ((x3).length) (k4)] V (fun _ v => v = .bool (r)) := by
  unfold F_clockworklaw54_VerifyCompares at hF
  refine Spec.enter (T := tyT) Tryz.func5 rfl (by kernel_rfl) rfl rfl rfl ?_
  refine Exec.run tyOk 400 rfl ?_
  rcases cond_some hF with ⟨hb, hF⟩ | ⟨hb, hF⟩
  · skip
    refine Exec.ifT rfl hb ?_
    refine Exec.run tyOk 400 rfl ?_
    obtain ⟨x5, hx5, hF⟩ := bnd_some hF
    refine Exec.callS (.bool (x5)) rfl rfl (W_clockworklaw54_works   hx5) ?_
    refine Exec.run tyOk 400 rfl ?_
    obtain rfl := some_inj hF
    exact Exec.ret tyOk rfl rfl rfl
  · skip
    refine Exec.ifF rfl hb ?_
    refine Exec.run tyOk 400 rfl ?_
    obtain ⟨x6, hx6, hF⟩ := bnd_some hF
    refine Exec.call rfl rfl (W_verify_Compare x1 x3 h2 h4 hx6) ?_
    rintro V8 _ hv8 ⟨a7, k7, rfl, h7⟩
    have h9 := SlAt.mono h2 hv8
    have h10 := SlAt.mono h4 hv8
    refine Exec.run tyOk 400 rfl ?_
    obtain ⟨x11, hx11, hF⟩ := bnd_some hF
    refine Exec.call rfl rfl (W_clockworkref54_Compare x1 x3 h9 h10 hx11) ?_
    rintro V13 _ hv13 ⟨a12, k12, rfl, h12⟩
    have h14 := SlAt.mono h9 hv13
    have h15 := SlAt.mono h10 hv13
    have h16 := SlAt.mono h7 hv13
    refine Exec.run tyOk 400 rfl ?_
    obtain ⟨x17, hx17, hF⟩ := bnd_some hF
    refine Exec.callS (.bool (x17)) rfl rfl (W_clockworkref04_Same x6.1 x11.1 h16 h12 hx17) ?_
    refine Exec.run tyOk 400 rfl ?_
    obtain ⟨x18, hx18, hF⟩ := bnd_some hF
    refine Exec.callS (.bool (x18)) rfl rfl (fun gg0 => W_clockworklaw54_works   (gcall_some hx18 (gd1_of gg0))) ?_
    refine Exec.run tyOk 400 rfl ?_
    obtain rfl := some_inj hF
    exact Exec.ret tyOk rfl rfl rfl

def F_clockworklaw54_VerifyStores (x1 : TStore) (x3 : TStore) : Option Bool :=
  (bnd (F_clockworklaw54_few x1) fun x5 => (bnd (gcall (((!x5)) == false) (F_clockworklaw54_few x3)) fun x6 => (cond ((!x5) || (!x6)) (bnd (F_clockworklaw54_works ) fun x7 => (some x7)) (bnd (F_verify_Stores x1 x3) fun x8 => (bnd (F_clockworkref54_Stores x1 x3) fun x9 => (bnd (gcall ((((x8.1 == x9.1) && (x8.2 == x9.2))) == true) (F_clockworklaw54_works )) fun x10 => (some (((x8.1 == x9.1) && (x8.2 == x9.2)) && x10))))))))

set_option maxRecDepth 100000 in
theorem W_clockworklaw54_VerifyStores {V : View} (x1 : TStore) (x3 : TStore) {a2 : Option Addr} {k2 : Nat} {a4 : Option Addr} {k4 : Nat} (h2 : SlAt cTRow V a2 k2 x1.Rows) (h4 : SlAt cTRow V a4 k4 x3.Rows) {r : Bool} (hF : F_clockworklaw54_VerifyStores x1 x3 = some r) :
    Spec Tryz.prog 6 [.agg ⟨[.int .i64 (x1.Floor), .int .i64 (x1.Last), .slice a2 ((x1.Rows).length) (k2)]⟩, .agg ⟨[.int .i64 (x3.Floor), .int .i64 (x3.Last), .slice a4 ((x3.Rows).length) (k4)]⟩] V (fun _ v => v = .bool (r)) := by
  unfold F_clockworklaw54_VerifyStores at hF
  refine Spec.enter (T := tyT) Tryz.func6 rfl (by kernel_rfl) rfl rfl rfl ?_
  refine Exec.run tyOk 400 rfl ?_
  obtain ⟨x5, hx5, hF⟩ := bnd_some hF
  refine Exec.callS (.bool (x5)) rfl rfl (W_clockworklaw54_few x1 h2 hx5) ?_
  refine Exec.run tyOk 400 rfl ?_
  obtain ⟨x6, hx6, hF⟩ := bnd_some hF
  refine Exec.callS (.bool (x6)) rfl rfl (fun gg0 => W_clockworklaw54_few x3 h4 (gcall_some hx6 (gd1_of gg0))) ?_
  refine Exec.run tyOk 400 rfl ?_
  rcases cond_some hF with ⟨hb, hF⟩ | ⟨hb, hF⟩
  · skip
    refine Exec.ifT rfl hb ?_
    refine Exec.run tyOk 400 rfl ?_
    obtain ⟨x7, hx7, hF⟩ := bnd_some hF
    refine Exec.callS (.bool (x7)) rfl rfl (W_clockworklaw54_works   hx7) ?_
    refine Exec.run tyOk 400 rfl ?_
    obtain rfl := some_inj hF
    exact Exec.ret tyOk rfl rfl rfl
  · skip
    refine Exec.ifF rfl hb ?_
    refine Exec.run tyOk 400 rfl ?_
    obtain ⟨x8, hx8, hF⟩ := bnd_some hF
    refine Exec.callS (.tuple ⟨[.int .i64 (x8.1), .int .i64 (x8.2)]⟩) rfl rfl (W_verify_Stores x1 x3 h2 h4 hx8) ?_
    refine Exec.run tyOk 400 rfl ?_
    obtain ⟨x9, hx9, hF⟩ := bnd_some hF
    refine Exec.callS (.tuple ⟨[.int .i64 (x9.1), .int .i64 (x9.2)]⟩) rfl rfl (W_clockworkref54_Stores x1 x3 h2 h4 hx9) ?_
    refine Exec.run tyOk 400 rfl ?_
    obtain ⟨x10, hx10, hF⟩ := bnd_some hF
    refine Exec.callS (.bool (x10)) rfl rfl (fun gg0 => W_clockworklaw54_works   (gcall_some hx10 (gd1_of gg0))) ?_
    refine Exec.run tyOk 400 rfl ?_
    obtain rfl := some_inj hF
    exact Exec.ret tyOk rfl rfl rfl

end Go.Proofs.YtonijgmopcmldaaGreat
