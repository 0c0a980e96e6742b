/-
 PLAIN TEXTS OF CHAPTER 33 FOR 35 (merged): examples, what a move keeps; lives
 Conditions: none.
-/
import Derived.Test.YtglnnhmmipopiaaGreatOs
import Derived.Test.YtglnnhmmipopiaaGreatOp
set_option linter.all false
namespace Go.Proofs.YtglnnhmmipopiaaGreat

/-! ### Arguments that are data -/
theorem okP33 {p : TPlacement} (h : okTPlacement p) : POk p := by
 obtain ⟨_, h1, h2⟩ := h
 have e : big = 9223372036854775808 := rfl
 refine ⟨by rw [e]; omega, fun x hx => ?_⟩
 obtain ⟨_, h3, _, _, h4⟩ := h2 x hx
 have h3 : x.From.length ≤ 9223372036854775807 := h3
 have h4 : x.Done.length ≤ 9223372036854775807 := h4
 rw [e]
 omega
theorem okPr {l : List TPair} (o : okLR okTPair l) : PrOk l := by
 obtain ⟨h1, h2⟩ := o
 refine ⟨by omega, fun x hx => ?_⟩
 obtain ⟨h3, _, _, h4⟩ := h2 x hx
 have h3 : x.Key.length ≤ 9223372036854775807 := h3
 have h4 : x.Val.S.length ≤ 9223372036854775807 := h4
 have e : big = 9223372036854775808 := rfl
 rw [e]; omega
theorem okSh {l : List TShard} (o : okLR okTShard l) : ∀ s ∈ l, PrOk s.Pairs := fun s hs => okPr (o.2 s hs).2
theorem bnd_eq {α β : Type} {x : Option α} {k : α → Option β} {a : α} {r : Option β} (h : x = some a) (hk : k a = r) : bnd x k = r := by subst h; exact hk
theorem cond_eq_f {α : Type} {c : Bool} {a b r : α} (h : c = false) (hb : b = r) : cond c a b = r := by subst h; exact hb
theorem gcall_eq {α : Type} [Inhabited α] {g : Bool} {x : Option α} {a : α} (hg : g = true) (h : x = some a) : gcall g x = some a := by subst hg; exact h

/-! ### The example -/
theorem load_len (p : TPlacement) (l : List TPair) : (loadP p l).length ≤ 17 ∧ ∀ s ∈ loadP p l, s.Pairs.length ≤ l.length := by
 unfold loadP
 have hn := nodesRef_len p
 split
 ·refine ⟨by simpa using hn, fun s hs => ?_⟩
  obtain ⟨nd, _, rfl⟩ := List.mem_map.1 hs
  exact List.length_filter_le _ _
 ·exact ⟨by simp, by simp⟩
end Go.Proofs.YtglnnhmmipopiaaGreat
namespace Go.Proofs.YtglnnhmmipopiaaGreat
theorem kv_bound {s : Str} (h : kvB s = true) : boundB s = true ∧ s ≠ [] := by
 unfold kvB at h
 rw [Bool.and_eq_true, Bool.and_eq_true, decide_eq_true_eq, decide_eq_true_eq, Bool.not_eq_true', List.any_eq_false] at h
 obtain ⟨⟨h1, h2⟩, h3⟩ := h
 refine ⟨?_, fun e => by rw [e] at h1; simp at h1⟩
 unfold boundB
 rw [Bool.and_eq_true, decide_eq_true_eq, Bool.not_eq_true', List.any_eq_false]
 refine ⟨h2, fun i hi => ?_⟩
 have hk : kch (byteAt s i) = true := by simpa using h3 i hi
 unfold kch at hk
 simp only [Bool.or_eq_true, Bool.and_eq_true, decide_eq_true_eq, beq_iff_eq] at hk
 rw [Bool.or_eq_true, decide_eq_true_eq, decide_eq_true_eq]
 omega

/-! ### A move -/
structure MV (Q : TPlacement) (j : Nat) (m : Int) : Prop where
 v : pvB Q = true
 k : j < Q.Parts.length
 d : (ap Q.Parts j).Dest = 0
 ne : (ap Q.Parts j).Node ≠ m
 nd : 1 ≤ m ∧ m ≤ 16
 ver : Q.Version ≤ 1099511627746
structure DnOk (P : TPlacement) (k : Nat) (done : Str) : Prop where
 b : boundB done = true
 lo : sLt done (ap P.Parts k).From = false
 hi : k + 1 < P.Parts.length → sLt done (ap P.Parts (k + 1)).From = true
variable {P : TPlacement} {k : Nat} {node : Int}
theorem load_dv {p : TPlacement} (hv : pvB p = true) {state : List TPair} (hst : staB state = true) : dvB p (loadP p state) = true := by
 rw [loadP, hv, hst, Bool.and_self, if_pos rfl]
 refine dv_iff.2 ⟨hv, ?_, fun s hs => ?_⟩
 ·rw [List.map_map]
  exact List.map_id' _
 ·obtain ⟨nd, _, rfl⟩ := List.mem_map.1 hs
  exact ⟨sta_filter hst _, fun x hx => eq_of_beq (List.mem_filter.1 hx).2⟩
theorem load_gth {p : TPlacement} (hv : pvB p = true) {state : List TPair} (hst : staB state = true) : gthP (loadP p state) = (state, 0) := by
 obtain ⟨u, e1, e2, e3⟩ := gth_spec (load_dv hv hst)
 rw [e1, kasc_ext (sta_iff.1 e2).2 (sta_iff.1 hst).2 fun x => ?_]
 rw [e3, loadP, hv, hst, Bool.and_self, if_pos rfl]
 constructor
 ·rintro ⟨s, hs, hx⟩
  obtain ⟨nd, _, rfl⟩ := List.mem_map.1 hs
  exact (List.mem_filter.1 hx).1
 ·intro hx
  exact ⟨shP p state (ownerP p x.Key), List.mem_map.2 ⟨_, owner_node hv _, rfl⟩, List.mem_filter.2 ⟨hx, by simp⟩⟩
theorem load_ok (p : TPlacement) {state : List TPair} (hs : PrOk state) (hl : state.length ≤ 100) : SOk (loadP p state) := by
 obtain ⟨h1, h2⟩ := load_len p state
 refine ⟨by omega, fun s hm => ?_⟩
 have := h2 s hm
 refine ⟨?_, by omega⟩
 unfold loadP at hm
 split at hm
 ·obtain ⟨nd, _, rfl⟩ := List.mem_map.1 hm
  exact hs.filter _
 ·simp at hm

/-! ### One chunk -/
theorem bound_len {s : Str} (h : boundB s = true) : s.length < big := by
 unfold boundB at h
 rw [Bool.and_eq_true, decide_eq_true_eq] at h
 have e : big = 9223372036854775808 := rfl
 rw [e]; omega
end Go.Proofs.YtglnnhmmipopiaaGreat
namespace Go.Proofs.YtglnnhmmipopiaaGreat
def insG {α : Type} (lt : α → α → Bool) (x : α) : List α → List α
 | [] => [x]
 | y :: l => cond (lt y x) (y :: insG lt x l) (x :: y :: l)
def isG {α : Type} (lt : α → α → Bool) : List α → List α
 | [] => []
 | x :: l => insG lt x (isG lt l)
theorem insG_perm {α : Type} (lt : α → α → Bool) (x : α) : ∀ l, (insG lt x l).Perm (x :: l)
 | [] => List.Perm.refl _
 | y :: l => by
  unfold insG
  cases lt y x with
  | true => exact ((insG_perm lt x l).cons y).trans (List.Perm.swap x y l)
  | false => exact List.Perm.refl _
theorem isG_perm {α : Type} (lt : α → α → Bool) : ∀ l, (isG lt l).Perm l
 | [] => List.Perm.refl _
 | x :: l => (insG_perm lt x _).trans ((isG_perm lt l).cons x)
theorem insG_sorted {α : Type} {lt : α → α → Bool} (ht : ∀ a b c, lt b a = false → lt c b = false → lt c a = false) (ha : ∀ a b, lt a b = true → lt b a = false) (x : α) : ∀ l : List α, l.Pairwise (fun a b => lt b a = false) → (insG lt x l).Pairwise (fun a b => lt b a = false)
 | [], _ => List.pairwise_singleton _ _
 | y :: l, h => by
  obtain ⟨h1, h2⟩ := List.pairwise_cons.1 h
  unfold insG
  cases e : lt y x with
  | true =>
   refine List.pairwise_cons.2 ⟨fun z hz => ?_, insG_sorted ht ha x l h2⟩
   rcases List.mem_cons.1 ((insG_perm lt x l).subset hz) with rfl | hz
   ·exact ha _ _ e
   ·exact h1 z hz
  | false =>
   refine List.pairwise_cons.2 ⟨fun z hz => ?_, h⟩
   rcases List.mem_cons.1 hz with rfl | hz
   ·exact e
   ·exact ht _ _ _ e (h1 z hz)
theorem isG_sorted {α : Type} {lt : α → α → Bool} (ht : ∀ a b c, lt b a = false → lt c b = false → lt c a = false) (ha : ∀ a b, lt a b = true → lt b a = false) : ∀ l : List α, (isG lt l).Pairwise (fun a b => lt b a = false)
 | [] => List.Pairwise.nil
 | x :: l => insG_sorted ht ha x _ (isG_sorted ht ha l)
theorem sortL_is : sortL = isG (fun a b : Int => decide (a < b)) := by
 funext l
 refine List.Perm.eq_of_pairwise (le := fun a b : Int => a ≤ b) (fun a b _ _ h1 h2 => by omega) ?_ ?_ ((List.mergeSort_perm l _).trans (isG_perm _ l).symm)
 ·exact (List.pairwise_mergeSort (le := fun x y : Int => decide (x ≤ y)) (fun a b c h1 h2 => by simp at *; omega) (fun a b => by simp; omega) l).imp fun {a b} h => by simpa using h
 ·exact (isG_sorted (lt := fun a b : Int => decide (a < b)) (fun a b c h1 h2 => by simp at *; omega) (fun a b h => by simp at *; omega) l).imp fun {a b} h => by simpa using h
def ky (i : Nat) : Str := [97, UInt8.ofNat (48 + i / 10), UInt8.ofNat (48 + i % 10)]
def rg (a b : Nat) : List TPair := (List.range (b - a)).map fun i => ⟨ky (a + i), ⟨1, 1, []⟩⟩
def q0 : TPlacement := ⟨0, [⟨1, [], 1, 0, []⟩]⟩
def q1 : TPlacement := ⟨1, [⟨1, [], 1, 0, []⟩, ⟨2, [97, 50, 48], 1, 0, []⟩]⟩
def q2 : TPlacement := ⟨2, [⟨1, [], 1, 2, []⟩, ⟨2, [97, 50, 48], 1, 0, []⟩]⟩
def q3 : TPlacement := ⟨3, [⟨1, [], 1, 2, [97, 49, 54]⟩, ⟨2, [97, 50, 48], 1, 0, []⟩]⟩
def q4 : TPlacement := ⟨4, [⟨1, [], 2, 0, []⟩, ⟨2, [97, 50, 48], 1, 0, []⟩]⟩
def r0 : List TShard := [⟨1, rg 0 40⟩]
def r2 : List TShard := [⟨1, rg 0 40⟩, ⟨2, []⟩]
def r3 : List TShard := [⟨1, rg 16 40⟩, ⟨2, rg 0 16⟩]
def r4 : List TShard := [⟨1, rg 20 40⟩, ⟨2, rg 0 20⟩]
def mk1 : TMarker := ⟨1, 1, 2, 0, 0, [97, 50, 48]⟩
def mk2 : TMarker := ⟨3, 1, 0, 2, 0, []⟩
def mk3 : TMarker := ⟨4, 1, 0, 0, 16, []⟩
def mk0 : TMarker := ⟨0, 0, 0, 0, 0, []⟩
theorem forty_t : F_clockworklaw35_forty = some (rg 0 40) := by kernel_rfl
set_option maxRecDepth 100000 in
theorem ad1 : F_rebalance_Advise q0 r0 [] 2 = some (mk1, true) := by
 simp only [F_rebalance_Advise, F_dist_Valid, F_rebalance_Sizes, F_rebalance_advice_moved, F_placement_Nodes, sortL_is]
 kernel_rfl
set_option maxRecDepth 100000 in
theorem ap1 : F_rebalance_Apply q0 r0 mk1 = some (q1, r0, 0) := by
 simp only [F_rebalance_Apply, F_rebalance_board_split, F_rebalance_board_merge, F_rebalance_board_move, F_rebalance_board_chunk, F_rebalance_board_loaded, F_dist_Load, F_migrate_Chunk, F_migrate_moving, F_migrate_moved, F_dist_Valid, F_placement_Nodes, sortL_is]
 kernel_rfl
set_option maxRecDepth 100000 in
theorem ad2 : F_rebalance_Advise q1 r0 [] 2 = some (mk2, true) := by
 simp only [F_rebalance_Advise, F_dist_Valid, F_rebalance_Sizes, F_rebalance_advice_moved, F_placement_Nodes, sortL_is]
 kernel_rfl
set_option maxRecDepth 100000 in
theorem ap2 : F_rebalance_Apply q1 r0 mk2 = some (q2, r2, 0) := by
 simp only [F_rebalance_Apply, F_rebalance_board_split, F_rebalance_board_merge, F_rebalance_board_move, F_rebalance_board_chunk, F_rebalance_board_loaded, F_dist_Load, F_migrate_Chunk, F_migrate_moving, F_migrate_moved, F_dist_Valid, F_placement_Nodes, sortL_is]
 kernel_rfl
set_option maxRecDepth 100000 in
theorem ad3 : F_rebalance_Advise q2 r2 [] 2 = some (mk3, true) := by
 simp only [F_rebalance_Advise, F_dist_Valid, F_rebalance_Sizes, F_rebalance_advice_moved, F_placement_Nodes, sortL_is]
 kernel_rfl
set_option maxRecDepth 100000 in
theorem ap3 : F_rebalance_Apply q2 r2 mk3 = some (q3, r3, 0) := by
 simp only [F_rebalance_Apply, F_rebalance_board_split, F_rebalance_board_merge, F_rebalance_board_move, F_rebalance_board_chunk, F_rebalance_board_loaded, F_dist_Load, F_migrate_Chunk, F_migrate_moving, F_migrate_moved, F_dist_Valid, F_placement_Nodes, sortL_is]
 kernel_rfl
set_option maxRecDepth 100000 in
theorem ad4 : F_rebalance_Advise q3 r3 [] 2 = some (mk3, true) := by
 simp only [F_rebalance_Advise, F_dist_Valid, F_rebalance_Sizes, F_rebalance_advice_moved, F_placement_Nodes, sortL_is]
 kernel_rfl
set_option maxRecDepth 100000 in
theorem ap4 : F_rebalance_Apply q3 r3 mk3 = some (q4, r4, 0) := by
 simp only [F_rebalance_Apply, F_rebalance_board_split, F_rebalance_board_merge, F_rebalance_board_move, F_rebalance_board_chunk, F_rebalance_board_loaded, F_dist_Load, F_migrate_Chunk, F_migrate_moving, F_migrate_moved, F_dist_Valid, F_placement_Nodes, sortL_is]
 kernel_rfl
set_option maxRecDepth 100000 in
theorem ad5 : F_rebalance_Advise q4 r4 [] 2 = some (mk0, false) := by
 simp only [F_rebalance_Advise, F_dist_Valid, F_rebalance_Sizes, F_rebalance_advice_moved, F_placement_Nodes, sortL_is]
 kernel_rfl
set_option maxRecDepth 100000 in
theorem lives_t : F_clockworklaw35_lives = some true := by
 unfold F_clockworklaw35_lives
 refine bnd_eq forty_t ?_
 refine bnd_eq ad1 ?_
 refine cond_eq_f rfl ?_
 refine bnd_eq ap1 ?_
 refine bnd_eq ad2 ?_
 refine cond_eq_f rfl ?_
 show F_clockworklaw35_lives_L1 _ (3 + 1) q1 mk2 r0 0 = some true
 rw [F_clockworklaw35_lives_L1]
 refine (cond_true ..).trans ?_
 refine bnd_eq ap2 ?_
 refine bnd_eq ad3 ?_
 refine cond_eq_f rfl ?_
 show F_clockworklaw35_lives_L1 _ (2 + 1) q2 mk3 r2 1 = some true
 rw [F_clockworklaw35_lives_L1]
 refine (cond_true ..).trans ?_
 refine bnd_eq ap3 ?_
 refine bnd_eq ad4 ?_
 refine cond_eq_f rfl ?_
 show F_clockworklaw35_lives_L1 _ (1 + 1) q3 mk3 r3 2 = some true
 rw [F_clockworklaw35_lives_L1]
 refine (cond_true ..).trans ?_
 refine bnd_eq ap4 ?_
 refine bnd_eq ad5 ?_
 refine cond_eq_f rfl ?_
 show F_clockworklaw35_lives_L1 _ (0 + 1) q4 mk0 r4 3 = some true
 rw [F_clockworklaw35_lives_L1]
 refine (cond_false ..).trans ?_
 kernel_rfl
end Go.Proofs.YtglnnhmmipopiaaGreat
