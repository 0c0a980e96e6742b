/-
  Chapter 33, plain texts: chunks received; moves begun; partitions that move.
  Conditions: none.
-/
import Derived.Test.YtedbagekceppiaaBr
set_option linter.all false
namespace Go.Proofs.Ytedbagekceppiaa

/-! ### Start, Moving -/

def stP (p : TPlacement) (id node : Int) : TPlacement × Int :=
  cond ((!pvB p || decide (node < 1)) || decide (16 < node)) (noP, 1) (cond (decide (findP p.Parts id < 0)) (noP, 9)
    (cond (((atI p.Parts (findP p.Parts id)).Dest != 0) || ((atI p.Parts (findP p.Parts id)).Node == node)) (noP, 19) (cond (p.Version == 1099511627776) (noP, 2)
      (chP p (findP p.Parts id) ⟨(atI p.Parts (findP p.Parts id)).Id, (atI p.Parts (findP p.Parts id)).From, (atI p.Parts (findP p.Parts id)).Node, node, (atI p.Parts (findP p.Parts id)).From⟩, 0))))

theorem start_impl {p : TPlacement} (hp : POk p) (hpl : p.Parts.length ≤ 1000) (id node : Int) : F_migrate_Start p id node = some (stP p id node) := by
  unfold F_migrate_Start stP
  rw [valid29_impl hp.l hp.s, bnd_mk]
  cases ((!pvB p || decide (node < 1)) || decide (16 < node)) with
  | true => rfl
  | false =>
    rw [cond_false, cond_false, mfind_impl hp.l, bnd_mk]
    by_cases h : findP p.Parts id < 0
    · rw [decide_eq_true h]; rfl
    · obtain ⟨k, e, hk⟩ := find_at h
      rw [e, decide_eq_false (show ¬ (k : Int) < 0 by omega), cond_false, cond_false, req_pos ⟨by omega, by omega⟩]
      cases (((atI p.Parts (k : Int)).Dest != 0) || ((atI p.Parts (k : Int)).Node == node)) with
      | true => rfl
      | false =>
        cases (p.Version == 1099511627776) with
        | true => rfl
        | false => rw [cond_false, cond_false, cond_false, cond_false, changed_impl (by omega) hk, bnd_mk]

theorem start_ref {p : TPlacement} (hp : POk p) (hpl : p.Parts.length ≤ 1000) (id node : Int) : F_clockworkref33_Start p id node = some (stP p id node) := by
  unfold F_clockworkref33_Start stP
  rw [valid29_ref hp.l hp.s, bnd_mk]
  cases hc : ((!pvB p || decide (node < 1)) || decide (16 < node)) with
  | true => rfl
  | false =>
    have hv : pvB p = true := by
      cases h : pvB p with
      | true => rfl
      | false => rw [h] at hc; simp at hc
    have hver := (pv_iff.1 hv).ver
    rw [cond_false, cond_false, find_ref hp.l, bnd_mk]
    by_cases h : findP p.Parts id < 0
    · rw [decide_eq_true h]; rfl
    · obtain ⟨k, e, hk⟩ := find_at h
      rw [e, decide_eq_false (show ¬ (k : Int) < 0 by omega), cond_false, cond_false, req_pos ⟨by omega, by omega⟩]
      rw [show decide ((1099511627776 : Int) ≤ p.Version) = (p.Version == 1099511627776) by rw [Bool.eq_iff_iff]; simp; omega]
      cases (((atI p.Parts (k : Int)).Dest != 0) || ((atI p.Parts (k : Int)).Node == node)) with
      | true => rfl
      | false =>
        cases (p.Version == 1099511627776) with
        | true => rfl
        | false => rw [cond_false, cond_false, cond_false, cond_false, with_ref33 (by omega) hk, bnd_mk]

def mvP (p : TPlacement) : List Int := cond (pvB p) ((p.Parts.filter fun x => x.Dest != 0).map (·.Id)) []

theorem moving33_impl {p : TPlacement} (hp : POk p) (hpl : p.Parts.length ≤ 1000) : F_migrate_Moving p = some (mvP p) := by
  unfold F_migrate_Moving mvP
  rw [valid29_impl hp.l hp.s, bnd_mk]
  cases pvB p with
  | false => rfl
  | true =>
    simp only [Bool.not_true, cond_false, cond_true, jn_mk]
    refine (loopFold (l := p.Parts) (by omega) (L := fun n a i => F_migrate_Moving_L1 p (fun x6 => some x6) n a i) (J := fun x6 => some x6) (f := fun a x => cond (x.Dest != 0) (a ++ [x.Id]) a) (fun i s => s.length ≤ i) ?_ ?_ ?_ (by omega) (by simp)).trans ?_
    · intro n i s hi hs
      try dsimp only
      rw [F_migrate_Moving_L1]
      have hb : (s ++ [p.Parts[i].Id]).length * 8 ≤ 140737488355328 := by simp; omega
      simp only [show (i : Int) < (p.Parts.length : Int) by omega, decide_true, cond_true, show 0 ≤ (i : Int) by omega, and_self, req_t, atI_nat hi, jn_mk, hb]
      cases (p.Parts[i].Dest != 0) <;> rfl
    · intro i s hi hs
      cases (p.Parts[i].Dest != 0) <;> simp <;> omega
    · intro n s _
      try dsimp only
      rw [F_migrate_Moving_L1]
      simp
    · congr 1
      have : ∀ (l : List TPart) (a : List Int), l.foldl (fun a x => cond (x.Dest != 0) (a ++ [x.Id]) a) a = a ++ (l.filter fun x => x.Dest != 0).map (·.Id) := by
        intro l
        induction l with
        | nil => intro a; simp
        | cons x l ih => intro a; rw [List.foldl_cons, ih]; cases h : (x.Dest != 0) <;> simp [h]
      rw [this]; simp

theorem moving33_ref {p : TPlacement} (hp : POk p) (hpl : p.Parts.length ≤ 1000) : F_clockworkref33_Moving p = some (mvP p) := by
  unfold F_clockworkref33_Moving mvP
  simp only [jn_mk]
  cases hv : pvB p with
  | false =>
    rw [F_clockworkref33_Moving_L1, valid29_ref hp.l hp.s, hv]
    cases decide ((0 : Int) < ((p.Parts.length : Nat) : Int)) <;> rfl
  | true =>
    rw [cond_true]
    refine (loopFold (l := p.Parts) (by omega) (L := fun n a i => F_clockworkref33_Moving_L1 p (fun x6 => some x6) n a i) (J := fun x6 => some x6) (f := fun a x => cond (x.Dest != 0) (a ++ [x.Id]) a) (fun i s => s.length ≤ i) ?_ ?_ ?_ (by omega) (by simp)).trans ?_
    · intro n i s hi hs
      try dsimp only
      rw [F_clockworkref33_Moving_L1]
      have hb : (s ++ [p.Parts[i].Id]).length * 8 ≤ 140737488355328 := by simp; omega
      simp only [show (i : Int) < (p.Parts.length : Int) by omega, decide_true, BEq.rfl, gcall_t, cond_true, show 0 ≤ (i : Int) by omega, and_self, req_t, atI_nat hi, jn_mk, hb, valid29_ref hp.l hp.s, hv, bnd_mk]
      cases (p.Parts[i].Dest != 0) <;> rfl
    · intro i s hi hs
      cases (p.Parts[i].Dest != 0) <;> simp <;> omega
    · intro n s _
      try dsimp only
      rw [F_clockworkref33_Moving_L1]
      simp [gcall, bnd]
    · congr 1
      have : ∀ (l : List TPart) (a : List Int), l.foldl (fun a x => cond (x.Dest != 0) (a ++ [x.Id]) a) a = a ++ (l.filter fun x => x.Dest != 0).map (·.Id) := by
        intro l
        induction l with
        | nil => intro a; simp
        | cons x l ih => intro a; rw [List.foldl_cons, ih]; cases h : (x.Dest != 0) <;> simp [h]
      rw [this]; simp

/-! ### Receive -/

structure CkOk (c : TChunk) : Prop where
  k : RgOk c.Keys
  p : PrOk c.Pairs

def rcP (s : TShard) (c : TChunk) : TShard × Int :=
  cond ((((((s.Node != c.To) || !staB s.Pairs) || !vrB c.Keys) || !staB c.Pairs) || c.Pairs.any fun x => !ctB c.Keys x.Key)) (⟨0, []⟩, 1)
    (⟨s.Node, (unionP (s.Pairs.filter fun x => !ctB c.Keys x.Key) c.Pairs).1⟩, 0)

theorem rc_union {s : TShard} {c : TChunk} (h1 : staB s.Pairs = true) (h2 : staB c.Pairs = true) (h3 : (c.Pairs.any fun x => !ctB c.Keys x.Key) = false) :
    ∃ u, unionP (s.Pairs.filter fun x => !ctB c.Keys x.Key) c.Pairs = (u, 0) ∧ staB u = true ∧ ∀ x, x ∈ u ↔ (x ∈ s.Pairs ∧ ctB c.Keys x.Key = false) ∨ x ∈ c.Pairs := by
  obtain ⟨u, e1, e2, e3⟩ := union_dj (sta_filter h1 (fun x => !ctB c.Keys x.Key)) h2 (fun x hx y hy e => by
    have a := (List.mem_filter.1 hx).2
    have b := List.any_eq_false.1 h3 y hy
    rw [e] at a
    exact b a)
  refine ⟨u, e1, e2, fun x => ?_⟩
  rw [e3, List.mem_filter, Bool.not_eq_true']

theorem keep_loop (r : TRange) (l : List TPair) : l.filter (fun x => !ctB r x.Key) = l.filter (fun x => !ctB r x.Key) := rfl

theorem receive_impl {s : TShard} (hs : PrOk s.Pairs) (hl : s.Pairs.length ≤ 1000) {c : TChunk} (hc : CkOk c) (hcl : c.Pairs.length ≤ 1000) : F_migrate_Receive s c = some (rcP s c) := by
  unfold F_migrate_Receive rcP
  have hrk : RgOk (⟨c.Keys.From, c.Keys.To⟩ : TRange) := ⟨hc.k.f, hc.k.t⟩
  rw [svalid_impl hs, svalid_impl hc.p, vrange_impl hrk, slice_impl (by omega) hrk]
  rw [show (⟨c.Keys.From, c.Keys.To⟩ : TRange) = c.Keys from rfl]
  cases (s.Node != c.To) with
  | true => rfl
  | false =>
    simp only [BEq.rfl, gcall_t, bnd_mk, Bool.false_or]
    cases h1 : staB s.Pairs with
    | false => rfl
    | true =>
      simp only [Bool.not_true, BEq.rfl, gcall_t, bnd_mk, Bool.false_or]
      cases vrB c.Keys with
      | false => rfl
      | true =>
        simp only [Bool.not_true, BEq.rfl, gcall_t, bnd_mk, Bool.false_or]
        cases h2 : staB c.Pairs with
        | false => rfl
        | true =>
          simp only [Bool.not_true, BEq.rfl, gcall_t, bnd_mk, Bool.false_or]
          unfold slP
          rw [filt_len]
          cases h3 : (c.Pairs.any fun x => !ctB c.Keys x.Key) with
          | true => rfl
          | false =>
            rw [cond_false, cond_false, jn_mk]
            refine (loopFilter (l := s.Pairs) hs.l (L := fun n a i => F_migrate_Receive_L1 s c (fun x15 => bnd (F_state_Union x15 c.Pairs) fun x23 => cond (x23.2 != (0 : Int)) (some ((⟨0, ([] : List TPair)⟩ : TShard), x23.2)) (some ((⟨s.Node, x23.1⟩ : TShard), (0 : Int)))) n a i)
              (J := fun x15 => bnd (F_state_Union x15 c.Pairs) fun x23 => cond (x23.2 != (0 : Int)) (some ((⟨0, ([] : List TPair)⟩ : TShard), x23.2)) (some ((⟨s.Node, x23.1⟩ : TShard), (0 : Int)))) (p := fun x => !ctB c.Keys x.Key) ?_ ?_ (n := ((s.Pairs.length : Nat) : Int).toNat + 1) (by omega)).trans ?_
            · intro n i acc hi hacc
              try dsimp only
              rw [F_migrate_Receive_L1]
              have hb : (acc ++ [s.Pairs[i]]).length * 48 ≤ 140737488355328 := by simp; omega
              simp only [show (i : Int) < (s.Pairs.length : Int) by omega, decide_true, cond_true, show 0 ≤ (i : Int) by omega, and_self, req_t, atI_nat hi, contains_impl hrk, bnd_mk, jn_mk, hb]
            · intro n acc _
              try dsimp only
              rw [F_migrate_Receive_L1]
              simp
            · obtain ⟨u, e1, _⟩ := rc_union (s := s) (c := c) h1 h2 h3
              have hf := List.length_filter_le (fun x : TPair => !ctB c.Keys x.Key) s.Pairs
              rw [union_impl (hs.filter _) hc.p (by omega), bnd_mk, e1]
              rfl

theorem receive_ref {s : TShard} (hs : PrOk s.Pairs) (hl : s.Pairs.length ≤ 1000) {c : TChunk} (hc : CkOk c) (hcl : c.Pairs.length ≤ 1000) : F_clockworkref33_Receive s c = some (rcP s c) := by
  unfold F_clockworkref33_Receive rcP
  have hrk : RgOk (⟨c.Keys.From, c.Keys.To⟩ : TRange) := ⟨hc.k.f, hc.k.t⟩
  rw [svalid_ref hs, svalid_ref hc.p, vrange_ref hrk]
  rw [show vrB (⟨c.Keys.From, c.Keys.To⟩ : TRange) = vrB c.Keys from rfl]
  cases (s.Node != c.To) with
  | true => rfl
  | false =>
    simp only [BEq.rfl, gcall_t, bnd_mk, Bool.false_or]
    cases h1 : staB s.Pairs with
    | false => rfl
    | true =>
      simp only [Bool.not_true, BEq.rfl, gcall_t, bnd_mk, Bool.false_or]
      cases vrB c.Keys with
      | false => rfl
      | true =>
        simp only [Bool.not_true, BEq.rfl, gcall_t, bnd_mk, Bool.false_or]
        cases h2 : staB c.Pairs with
        | false => rfl
        | true =>
          simp only [Bool.not_true, cond_false, Bool.false_or, jn_mk]
          have hL1 : F_clockworkref33_Receive_L1 s c (fun x16 => bnd (F_clockworkref06_Union x16 c.Pairs) fun x26 => some ((⟨s.Node, x26.1⟩ : TShard), (0 : Int))) (((s.Pairs.length : Nat) : Int).toNat + 1) [] 0 = some (⟨s.Node, (unionP (s.Pairs.filter fun x => !ctB c.Keys x.Key) c.Pairs).1⟩, 0) := by
            refine (loopFilter (l := s.Pairs) hs.l (L := fun n a i => F_clockworkref33_Receive_L1 s c (fun x16 => bnd (F_clockworkref06_Union x16 c.Pairs) fun x26 => some ((⟨s.Node, x26.1⟩ : TShard), (0 : Int))) n a i)
              (J := fun x16 => bnd (F_clockworkref06_Union x16 c.Pairs) fun x26 => some ((⟨s.Node, x26.1⟩ : TShard), (0 : Int))) (p := fun x => !ctB c.Keys x.Key) ?_ ?_ (n := ((s.Pairs.length : Nat) : Int).toNat + 1) (by omega)).trans ?_
            · intro n i acc hi hacc
              try dsimp only
              rw [F_clockworkref33_Receive_L1]
              have hb : (acc ++ [s.Pairs[i]]).length * 48 ≤ 140737488355328 := by simp; omega
              simp only [show (i : Int) < (s.Pairs.length : Int) by omega, decide_true, cond_true, show 0 ≤ (i : Int) by omega, and_self, req_t, atI_nat hi, contains_ref hrk, bnd_mk, jn_mk, hb]
            · intro n acc _
              try dsimp only
              rw [F_clockworkref33_Receive_L1]
              simp
            · have hf := List.length_filter_le (fun x : TPair => !ctB c.Keys x.Key) s.Pairs
              rw [union_ref (hs.filter _) hc.p (by omega), bnd_mk]
          rw [hL1]
          refine (loopAny0 (l := c.Pairs) hc.p.l (L := fun n i => F_clockworkref33_Receive_L2 c (fun _ => some (⟨s.Node, (unionP (s.Pairs.filter fun x => !ctB c.Keys x.Key) c.Pairs).1⟩, 0)) n default i) (q := fun x => !ctB c.Keys x.Key) (E := some (⟨0, []⟩, 1))
            (J := some (⟨s.Node, (unionP (s.Pairs.filter fun x => !ctB c.Keys x.Key) c.Pairs).1⟩, 0)) (n := ((c.Pairs.length : Nat) : Int).toNat + 1) (by omega) ?_ ?_).trans ?_
          · intro n i hi
            try dsimp only
            rw [F_clockworkref33_Receive_L2]
            simp only [show (i : Int) < (c.Pairs.length : Int) by omega, decide_true, cond_true, show 0 ≤ (i : Int) by omega, and_self, req_t, atI_nat hi, contains_ref hrk, bnd_mk]
          · intro n
            try dsimp only
            rw [F_clockworkref33_Receive_L2]
            simp
          · cases (c.Pairs.any fun x => !ctB c.Keys x.Key) <;> rfl

/-! ### Comparisons -/

theorem pairs_self {l : List TPair} (hl : l.length < 9223372036854775808) : F_clockworkref06_Same l l = some true := by
  rw [same06 hl hl, (eqL_iff pairEq_iff).2 rfl]

theorem shards_self {l : List TShard} (hl : l.length < 9223372036854775808) (h : ∀ s ∈ l, s.Pairs.length < 9223372036854775808) : F_clockworkref32_Same l l = some true := by
  unfold F_clockworkref32_Same
  simp only [jn_mk]
  rw [show (((l.length : Nat) : Int) != ((l.length : Nat) : Int)) = false by simp, cond_false]
  refine (loopAny0 (l := l) hl (L := fun n i => F_clockworkref32_Same_L1 l l (some true) n i) (q := fun m => false) (E := some false) (J := some true) (n := ((l.length : Nat) : Int).toNat + 1) (by omega) ?_ ?_).trans ?_
  · intro n i hi
    have hm := h _ (List.getElem_mem hi)
    try dsimp only
    rw [F_clockworkref32_Same_L1]
    simp only [show (i : Int) < (l.length : Int) by omega, decide_true, cond_true, show 0 ≤ (i : Int) by omega, and_self, implies_true, req_t, atI_nat hi, bne_self_eq_false, BEq.rfl, gcall_t, pairs_self hm, bnd_mk, Bool.not_true, Bool.or_self, cond_false]
  · intro n
    try dsimp only
    rw [F_clockworkref32_Same_L1]
    simp
  · rw [show l.any (fun _ => false) = false by simp]; rfl

end Go.Proofs.Ytedbagekceppiaa
