/-
  Chapter 33, plain texts: the chapter's example; the laws on one step.
  Conditions: none.
-/
import Derived.Test.YtedbagekceppiaaBs
import Derived.Test.YtedbagekceppiaaOp
set_option linter.all false
namespace Go.Proofs.Ytedbagekceppiaa

/-! ### Arguments that are data -/

theorem okP33 {p : TPlacement} (h : okTPlacement p) : POk p := by
  obtain ⟨_, h1, h2⟩ := h
  have e : big = 9223372036854775808 := rfl
  refine ⟨by rw [e]; omega, fun x hx => ?_⟩
  obtain ⟨_, h3, _, _, h4⟩ := h2 x hx
  have h3 : x.From.length ≤ 9223372036854775807 := h3
  have h4 : x.Done.length ≤ 9223372036854775807 := h4
  rw [e]
  omega

theorem okPr {l : List TPair} (o : okL okTPair l) : PrOk l := by
  obtain ⟨h1, h2⟩ := o
  refine ⟨by omega, fun x hx => ?_⟩
  obtain ⟨h3, _, _, h4⟩ := h2 x hx
  have h3 : x.Key.length ≤ 9223372036854775807 := h3
  have h4 : x.Val.S.length ≤ 9223372036854775807 := h4
  have e : big = 9223372036854775808 := rfl
  rw [e]; omega

theorem okSh {l : List TShard} (o : okL okTShard l) : ∀ s ∈ l, PrOk s.Pairs := fun s hs => okPr (o.2 s hs).2

theorem okCk {c : TChunk} (o : okTChunk c) : CkOk c := by
  obtain ⟨_, _, _, ⟨h1, h2⟩, h3, _⟩ := o
  have h1 : c.Keys.From.length ≤ 9223372036854775807 := h1
  have h2 : c.Keys.To.length ≤ 9223372036854775807 := h2
  have e : big = 9223372036854775808 := rfl
  exact ⟨⟨by rw [e]; omega, by rw [e]; omega⟩, okPr h3⟩

/-! ### Steps of an evaluation -/

theorem bnd_eq {α β : Type} {x : Option α} {k : α → Option β} {a : α} {r : Option β} (h : x = some a) (hk : k a = r) : bnd x k = r := by subst h; exact hk
theorem req_eq {ρ : Type} {p : Prop} [Decidable p] {k r : Option ρ} (h : p) (hk : k = r) : req p k = r := by rw [req_pos h]; exact hk
theorem cond_eq_f {α : Type} {c : Bool} {a b r : α} (h : c = false) (hb : b = r) : cond c a b = r := by subst h; exact hb
theorem gcall_eq {α : Type} [Inhabited α] {g : Bool} {x : Option α} {a : α} (hg : g = true) (h : x = some a) : gcall g x = some a := by subst hg; exact h

/-! ### The example -/

def wa : TPair := ⟨[97], ⟨1, 1, []⟩⟩
def wb : TPair := ⟨[98], ⟨1, 1, []⟩⟩
def wc : TPair := ⟨[99], ⟨1, 1, []⟩⟩
def wp0 : TPlacement := ⟨0, [⟨1, [], 1, 0, []⟩]⟩
def wp1 : TPlacement := ⟨1, [⟨1, [], 1, 2, []⟩]⟩
def wp2 : TPlacement := ⟨2, [⟨1, [], 1, 2, [99]⟩]⟩
def wp3 : TPlacement := ⟨3, [⟨1, [], 2, 0, []⟩]⟩
def wp4 : TPlacement := ⟨3, [⟨1, [], 1, 0, []⟩]⟩
def wl0 : List TShard := [⟨1, [wa, wb, wc]⟩, ⟨2, []⟩]
def wl1 : List TShard := [⟨1, [wc]⟩, ⟨2, [wa, wb]⟩]
def wl2 : List TShard := [⟨2, [wa, wb, wc]⟩]
def wl3 : List TShard := [⟨1, [wa, wb, wc]⟩]
def wc1 : TChunk := ⟨1, 1, 2, ⟨[], [99]⟩, [wa, wb], false⟩
def wc2 : TChunk := ⟨1, 1, 2, ⟨[99], []⟩, [wc], true⟩

theorem wp_ok {v a d : Int} {s : Str} (hs : s.length < 100) : POk ⟨v, [⟨1, [], a, d, s⟩]⟩ := by
  refine ⟨by show (1 : Nat) < big; decide, fun x hx => ?_⟩
  rw [List.mem_singleton.1 hx]
  exact ⟨by show (0 : Nat) < big; decide, Nat.lt_trans hs (by decide)⟩

theorem wp0_ok : POk wp0 := wp_ok (by decide)
theorem wp1_ok : POk wp1 := wp_ok (by decide)
theorem wp2_ok : POk wp2 := wp_ok (by decide)

theorem pr_ok {l : List TPair} (hl : l.length ≤ 3) (h : ∀ x ∈ l, x = wa ∨ x = wb ∨ x = wc) : PrOk l := by
  refine ⟨by omega, fun x hx => ?_⟩
  rcases h x hx with rfl | rfl | rfl <;> exact ⟨by decide, by decide⟩

theorem wl0_ok : SOk wl0 := by
  refine ⟨by decide, fun s hs => ?_⟩
  rcases List.mem_cons.1 hs with rfl | hs
  · exact ⟨pr_ok (by decide) (by simp), by decide⟩
  · rw [List.mem_singleton.1 hs]; exact ⟨PrOk.nil, by decide⟩

theorem wl1_ok : SOk wl1 := by
  refine ⟨by decide, fun s hs => ?_⟩
  rcases List.mem_cons.1 hs with rfl | hs
  · exact ⟨pr_ok (by decide) (by simp), by decide⟩
  · rw [List.mem_singleton.1 hs]; exact ⟨pr_ok (by decide) (by simp), by decide⟩

theorem uni_eq {a b u : List TPair} (ha : staB a = true) (hb : staB b = true) (h : mg a b = (u, false)) : unionP a b = (u, 0) := by
  rw [unionP, ha, hb, h]; rfl

theorem wg0 : gthP wl0 = ([wa, wb, wc], 0) := by
  have e1 : unionP [] [wa, wb, wc] = ([wa, wb, wc], 0) := uni_eq (by kernel_rfl) (by kernel_rfl) (by rw [mg])
  have e2 : unionP [wa, wb, wc] [] = ([wa, wb, wc], 0) := uni_eq (by kernel_rfl) (by kernel_rfl) (mg_nil _)
  rw [gthP, show ((List.range wl0.length).any fun i => gthBad wl0 i) = false by kernel_rfl, cond_false, wl0, guP, e1]
  show guP [wa, wb, wc] [⟨2, []⟩] = _
  rw [guP, e2]
  show guP [wa, wb, wc] [] = _
  rw [guP]

theorem wg1 : gthP wl1 = ([wa, wb, wc], 0) := by
  have e1 : unionP [] [wc] = ([wc], 0) := uni_eq (by kernel_rfl) (by kernel_rfl) (by rw [mg])
  have e2 : unionP [wc] [wa, wb] = ([wa, wb, wc], 0) := uni_eq (by kernel_rfl) (by kernel_rfl) (by
    rw [mg, if_neg (by decide +kernel), if_pos (by decide +kernel), mg, if_neg (by decide +kernel), if_pos (by decide +kernel), mg_nil])
  rw [gthP, show ((List.range wl1.length).any fun i => gthBad wl1 i) = false by kernel_rfl, cond_false, wl1, guP, e1]
  show guP [wc] [⟨2, [wa, wb]⟩] = _
  rw [guP, e2]
  show guP [wa, wb, wc] [] = _
  rw [guP]

theorem wk1 : ckP wp1 wl0 1 2 = (wp2, wl1, wc1, 0) := by
  rw [ckP, wg0]; kernel_rfl

theorem wk2 : ckP wp2 wl1 1 2 = (wp3, wl2, wc2, 0) := by
  rw [ckP, wg1]; kernel_rfl

theorem wk3 : cnP wp2 wl1 1 = (wp4, wl3, 0) := by
  rw [cnP, wg1]; kernel_rfl

theorem wk4 : rcP ⟨2, []⟩ wc1 = (⟨2, [wa, wb]⟩, 0) := by
  rw [rcP, show ([] : List TPair).filter (fun x => !ctB wc1.Keys x.Key) = [] from rfl, show wc1.Pairs = [wa, wb] from rfl, show unionP [] [wa, wb] = ([wa, wb], 0) from uni_eq (by kernel_rfl) (by kernel_rfl) (by rw [mg])]
  kernel_rfl

theorem works_true : F_clockworklaw33_works = some true := by
  have s1 : F_migrate_Start wp0 1 2 = some (wp1, 0) := by
    rw [start_impl wp0_ok (by decide)]; exact congrArg some (by kernel_rfl)
  have s2 : F_migrate_Chunk wp1 wl0 1 2 = some (wp2, wl1, wc1, 0) := by
    rw [chunk_impl wp1_ok (by decide) wl0_ok, wk1]
  have s3 : F_migrate_Chunk wp2 wl1 1 2 = some (wp3, wl2, wc2, 0) := by
    rw [chunk_impl wp2_ok (by decide) wl1_ok, wk2]
  have s4 : F_migrate_Cancel wp2 wl1 1 = some (wp4, wl3, 0) := by
    rw [cancel_impl wp2_ok (by decide) wl1_ok, wk3]
  have s5 : F_migrate_Receive ⟨2, []⟩ wc1 = some (⟨2, [wa, wb]⟩, 0) := by
    rw [receive_impl PrOk.nil (by decide) ⟨⟨by decide, by decide⟩, pr_ok (by decide) (by simp [wc1])⟩ (by decide), wk4]
  have s6 : F_clockworkref06_Same [wa, wb] [wa, wb] = some true := pairs_self (by decide)
  have s7 : F_migrate_Moving wp2 = some [1] := by
    rw [moving33_impl wp2_ok (by decide)]; exact congrArg some (by kernel_rfl)
  have s8 : F_clockworkref23_Ints [1] [1] = some true := ints_self (by decide)
  unfold F_clockworklaw33_works
  refine bnd_eq s1 ?_
  refine bnd_eq rfl ?_
  refine bnd_eq rfl ?_
  refine bnd_eq rfl ?_
  refine bnd_eq (a := (wp2, wl1, wc1, 0)) s2 ?_
  refine cond_eq_f (by kernel_rfl) ?_
  refine bnd_eq (a := (wp3, wl2, wc2, 0)) s3 ?_
  refine bnd_eq (a := (wp4, wl3, 0)) s4 ?_
  refine cond_eq_f (by kernel_rfl) ?_
  refine bnd_eq (a := (⟨2, [wa, wb]⟩, 0)) s5 ?_
  refine req_eq (by decide) ?_
  refine req_eq (by decide) ?_
  refine req_eq (by decide) ?_
  refine bnd_eq (a := true) (congrArg some (by kernel_rfl)) ?_
  refine req_eq (by decide) ?_
  refine req_eq (by decide) ?_
  refine bnd_eq (a := true) (congrArg some (by kernel_rfl)) ?_
  refine req_eq (by decide) ?_
  refine req_eq (by decide) ?_
  refine bnd_eq (a := true) (congrArg some (by kernel_rfl)) ?_
  refine req_eq (by decide) ?_
  refine req_eq (by decide) ?_
  refine bnd_eq (a := true) (gcall_eq (by kernel_rfl) s6) ?_
  refine bnd_eq (a := [1]) (gcall_eq (by kernel_rfl) s7) ?_
  refine bnd_eq (a := true) (gcall_eq (by kernel_rfl) s8) ?_
  exact congrArg some (by kernel_rfl)

/-! ### The laws -/

theorem few_eq {p : TPlacement} {l : List TShard} (hl : l.length < 9223372036854775808) : ∃ b, F_clockworklaw33_few p l = some b ∧ (b = true → p.Parts.length ≤ 40 ∧ l.length ≤ 40 ∧ ∀ s ∈ l, s.Pairs.length ≤ 60) := by
  unfold F_clockworklaw33_few
  cases h : (decide ((40 : Int) < ((p.Parts.length : Nat) : Int)) || decide ((40 : Int) < ((l.length : Nat) : Int))) with
  | true => exact ⟨false, rfl, by simp⟩
  | false =>
    rw [Bool.or_eq_false_iff, decide_eq_false_iff_not, decide_eq_false_iff_not] at h
    rw [cond_false, jn_mk]
    refine ⟨!(l.any fun s => decide ((60 : Int) < ((s.Pairs.length : Nat) : Int))), ?_, fun hb => ⟨by omega, by omega, fun s hs => ?_⟩⟩
    · refine (loopAny0 (l := l) hl (L := fun n i => F_clockworklaw33_few_L1 l (some true) n i) (q := fun s => decide ((60 : Int) < ((s.Pairs.length : Nat) : Int))) (E := some false) (J := some true) (n := ((l.length : Nat) : Int).toNat + 1) (by omega) ?_ ?_).trans ?_
      · intro n i hi
        try dsimp only
        rw [F_clockworklaw33_few_L1]
        simp only [show (i : Int) < (l.length : Int) by omega, decide_true, cond_true, show 0 ≤ (i : Int) by omega, and_self, req_t, atI_nat hi]
      · intro n
        try dsimp only
        rw [F_clockworklaw33_few_L1]
        simp
      · cases (l.any fun s => decide ((60 : Int) < ((s.Pairs.length : Nat) : Int))) <;> rfl
    · rw [Bool.not_eq_true', List.any_eq_false] at hb
      have := hb s hs
      simp only [decide_eq_true_eq] at this
      omega

theorem load_len (p : TPlacement) (l : List TPair) : (loadP p l).length ≤ 17 ∧ ∀ s ∈ loadP p l, s.Pairs.length ≤ l.length := by
  unfold loadP
  have hn := nodesRef_len p
  split
  · refine ⟨by simpa using hn, fun s hs => ?_⟩
    obtain ⟨nd, _, rfl⟩ := List.mem_map.1 hs
    exact List.length_filter_le _ _
  · exact ⟨by simp, by simp⟩

theorem nxtC_len (x : TPart) (r : TRange) (rest : List TPair) (n : Int) : (nxtC x r rest n).Pairs.length ≤ rest.length := by
  unfold nxtC
  cases decide (((rest.length : Nat) : Int) ≤ n) with
  | true => exact Nat.le_refl _
  | false => show (rest.take n.toNat).length ≤ _; simp; omega

theorem ch_len (p : TPlacement) (i : Int) (x : TPart) : (chP p i x).Parts.length = p.Parts.length := by simp [chP]

theorem plain_MigrateStarts (x0 : TPlacement) (x1 : Int) (x2 : Int) (o0 : okTPlacement x0) (o1 : (okI .i64) x1) (o2 : (okI .i64) x2) : F_clockworklaw33_MigrateStarts x0 x1 x2 = some true := by
  have hp := okP33 o0
  unfold F_clockworklaw33_MigrateStarts
  obtain ⟨b, e, hb⟩ := few_eq (p := x0) (l := []) (by simp)
  refine bnd_eq e ?_
  cases b with
  | false => exact bnd_eq works_true rfl
  | true =>
    obtain ⟨h1, _, _⟩ := hb rfl
    refine cond_eq_f rfl ?_
    refine bnd_eq (start_impl hp (by omega) _ _) ?_
    refine bnd_eq (start_ref hp (by omega) _ _) ?_
    have hlen : (stP x0 x1 x2).1.Parts.length < big := by
      unfold stP
      cases ((!pvB x0 || decide (x2 < 1)) || decide (16 < x2)) with
      | true => simp only [cond_true, cond_false]; decide
      | false =>
        cases decide (findP x0.Parts x1 < 0) with
        | true => simp only [cond_true, cond_false]; decide
        | false =>
          cases (((atI x0.Parts (findP x0.Parts x1)).Dest != 0) || ((atI x0.Parts (findP x0.Parts x1)).Node == x2)) with
          | true => simp only [cond_true, cond_false]; decide
          | false =>
            cases (x0.Version == 1099511627776) with
            | true => simp only [cond_true, cond_false]; decide
            | false => simp only [cond_false]; rw [ch_len]; exact hp.l
    have hmv : (mvP x0).length < 9223372036854775808 := by
      unfold mvP
      cases pvB x0 with
      | false => simp
      | true =>
        have := List.length_filter_le (fun x : TPart => x.Dest != 0) x0.Parts
        rw [cond_true, List.length_map]; omega
    refine bnd_eq (same29_self hlen) ?_
    refine bnd_eq (gcall_eq (by simp) (moving33_impl hp (by omega))) ?_
    refine bnd_eq (gcall_eq (by simp) (moving33_ref hp (by omega))) ?_
    refine bnd_eq (gcall_eq (by simp) (ints_self hmv)) ?_
    refine bnd_eq (gcall_eq (by simp) works_true) ?_
    simp

theorem plain_MigrateReceives (x0 : TShard) (x1 : TChunk) (o0 : okTShard x0) (o1 : okTChunk x1) : F_clockworklaw33_MigrateReceives x0 x1 = some true := by
  have hs := okPr o0.2
  have hc := okCk o1
  unfold F_clockworklaw33_MigrateReceives
  cases h : (decide ((60 : Int) < ((x0.Pairs.length : Nat) : Int)) || decide ((60 : Int) < ((x1.Pairs.length : Nat) : Int))) with
  | true => exact bnd_eq works_true rfl
  | false =>
    rw [Bool.or_eq_false_iff, decide_eq_false_iff_not, decide_eq_false_iff_not] at h
    refine cond_eq_f rfl ?_
    refine bnd_eq (receive_impl hs (by omega) hc (by omega)) ?_
    refine bnd_eq (receive_ref hs (by omega) hc (by omega)) ?_
    have hlen : (rcP x0 x1).1.Pairs.length < 9223372036854775808 := by
      unfold rcP
      cases ((((((x0.Node != x1.To) || !staB x0.Pairs) || !vrB x1.Keys) || !staB x1.Pairs) || x1.Pairs.any fun x => !ctB x1.Keys x.Key)) with
      | true => simp only [cond_true]; decide
      | false =>
        have hf := List.length_filter_le (fun x : TPair => !ctB x1.Keys x.Key) x0.Pairs
        have := (union_inv (hs.filter fun x => !ctB x1.Keys x.Key) hc.p (by omega)).1
        simp only [cond_false]
        omega
    refine bnd_eq (shards_self (by simp) (by simpa using hlen)) ?_
    refine bnd_eq (gcall_eq (by simp) works_true) ?_
    simp

end Go.Proofs.Ytedbagekceppiaa
