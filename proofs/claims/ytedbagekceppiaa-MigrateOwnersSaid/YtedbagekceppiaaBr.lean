/-
  Chapter 33, plain texts: placements changed at one place; moves begun, continued, cancelled; the shards gathered again.
  Conditions: none.
-/
import Derived.Test.YtedbagekceppiaaBq
set_option linter.all false
namespace Go.Proofs.Ytedbagekceppiaa

theorem find_at {p : TPlacement} {id : Int} (h : ¬ findP p.Parts id < 0) : ∃ k : Nat, findP p.Parts id = (k : Int) ∧ k < p.Parts.length := by
  have hb := firstIx_bd (fun x : TPart => x.Id == id) p.Parts 0
  refine ⟨(findP p.Parts id).toNat, by omega, ?_⟩
  unfold findP at h ⊢
  omega

theorem mfind_impl {p : TPlacement} {id : Int} (hl : p.Parts.length < big) : F_migrate_find p id = some (findP p.Parts id) := by
  have := find_impl (l := p.Parts) (id := id) hl
  unfold F_placement_find at this
  unfold F_migrate_find
  rw [show (fun y0 => F_migrate_find_1 y0 id) = (fun y0 => F_placement_find_1 y0 id) from rfl]
  exact this

/-- The next version, with another partition at a place. -/
def chP (p : TPlacement) (i : Int) (x : TPart) : TPlacement := ⟨IntKind.i64.wrap (p.Version + 1), p.Parts.set i.toNat x⟩

theorem cpL_self {α : Type} [Inhabited α] (l : List α) : cpL l (List.replicate l.length (default : α)) = l := by
  simp [cpL]

theorem changed_impl {p : TPlacement} (hl : p.Parts.length ≤ 1000000) {k : Nat} (hk : k < p.Parts.length) (x : TPart) : F_migrate_changed p (k : Int) x = some (chP p (k : Int) x) := by
  unfold F_migrate_changed
  rw [req_pos ⟨by omega, by omega⟩, req_pos (by simp; omega)]
  rw [show (((p.Parts.length : Nat) : Int)).toNat = p.Parts.length from rfl, cpL_self, req_pos ⟨by omega, by omega⟩]
  rfl

theorem with_ref33 {p : TPlacement} (hl : p.Parts.length ≤ 1000000) {k : Nat} (hk : k < p.Parts.length) (x : TPart) : F_clockworkref33_with p (k : Int) x = some (chP p (k : Int) x) := by
  unfold F_clockworkref33_with
  rw [wrap_succ (by omega)]
  simp only [forall_const, cond_true, List.nil_append, Int.toNat_natCast, Int.toNat_zero, List.drop_zero, List.take_length]
  rw [req_pos ⟨by omega, by omega, by omega⟩, req_pos (by simp; omega), req_pos (by simp; omega), req_pos ⟨by omega, by omega, by omega⟩, req_pos (by simp; omega), chP, List.set_eq_take_append_cons_drop, Int.toNat_natCast, if_pos hk]
  simp

theorem POk.ch {p : TPlacement} (hp : POk p) {i : Int} {x : TPart} (hx : x.From.length < big ∧ x.Done.length < big) : POk (chP p i x) := by
  refine ⟨?_, fun y hy => ?_⟩
  · show (p.Parts.set i.toNat x).length < big
    rw [List.length_set]; exact hp.l
  · rcases List.mem_or_eq_of_mem_set (show y ∈ p.Parts.set i.toNat x from hy) with h | h
    · exact hp.s y h
    · rw [h]; exact hx

/-! ### What shards hold together -/

theorem dv_iff {p : TPlacement} {l : List TShard} : dvB p l = true ↔ pvB p = true ∧ l.map (·.Node) = nodesRefP p ∧ ∀ s ∈ l, staB s.Pairs = true ∧ ∀ x ∈ s.Pairs, ownerP p x.Key = s.Node := by
  unfold dvB
  rw [Bool.and_eq_true, Bool.and_eq_true, decide_eq_true_eq, Bool.not_eq_true', List.any_eq_false]
  have hb : ∀ s nd, shBad p s nd = false ↔ s.Node = nd ∧ staB s.Pairs = true ∧ ∀ x ∈ s.Pairs, ownerP p x.Key = s.Node := by
    intro s nd
    unfold shBad
    rw [Bool.or_eq_false_iff, Bool.or_eq_false_iff, Bool.not_eq_false', bne_eq_false_iff_eq, List.any_eq_false, and_assoc]
    simp
  constructor
  · rintro ⟨⟨h1, h2⟩, h3⟩
    have h3 : ∀ i, i < l.length → shBad p (atI l (i : Int)) (atI (nodesRefP p) (i : Int)) = false := fun i hi => by simpa using h3 i (List.mem_range.2 hi)
    refine ⟨h1, ?_, fun s hs => ?_⟩
    · apply List.ext_getElem (by simpa using h2)
      intro i g1 g2
      have hi : i < l.length := by simpa using g1
      have := ((hb _ _).1 (h3 i hi)).1
      rw [atI_nat hi, atI_nat g2] at this
      simpa using this
    · obtain ⟨i, hi, rfl⟩ := List.getElem_of_mem hs
      have := ((hb _ _).1 (h3 i hi)).2
      rw [atI_nat hi] at this
      exact this
  · rintro ⟨h1, h2, h3⟩
    have hl : l.length = (nodesRefP p).length := by rw [← h2]; simp
    refine ⟨⟨h1, hl⟩, fun i hi => ?_⟩
    have hi := List.mem_range.1 hi
    rw [Bool.not_eq_true, hb, atI_nat hi, atI_nat (show i < (nodesRefP p).length by omega)]
    refine ⟨?_, h3 _ (List.getElem_mem hi)⟩
    have : (l.map (·.Node))[i]'(by simpa using hi) = (nodesRefP p)[i]'(by omega) := by simp only [h2]
    simpa using this

def dj (a b : List TPair) : Prop := ∀ x ∈ a, ∀ y ∈ b, x.Key ≠ y.Key

theorem union_dj {a b : List TPair} (ha : staB a = true) (hb : staB b = true) (hd : dj a b) : ∃ u, unionP a b = (u, 0) ∧ staB u = true ∧ ∀ x, x ∈ u ↔ x ∈ a ∨ x ∈ b := by
  obtain ⟨g1, g2⟩ := mg_spec (sta_iff.1 ha).2 (sta_iff.1 hb).2
  have hf : (mg a b).2 = false := by
    rw [g1, List.any_eq_false]
    intro y hy e
    obtain ⟨x, hx, e⟩ := List.any_eq_true.1 e
    exact hd x hx y hy (eq_of_beq e)
  obtain ⟨g3, g4⟩ := g2 hf
  refine ⟨(mg a b).1, ?_, sta_iff.2 ⟨fun x hx => ?_, g3⟩, g4⟩
  · rw [unionP, ha, hb, hf]; rfl
  · rcases (g4 x).1 hx with h | h
    · exact (sta_iff.1 ha).1 x h
    · exact (sta_iff.1 hb).1 x h

theorem sta_nil : staB [] = true := sta_iff.2 ⟨by simp, List.Pairwise.nil⟩

/-- Valid shards whose nodes differ, put together. -/
theorem gu_spec (p : TPlacement) : ∀ (l : List TShard) (out : List TPair), staB out = true → (∀ s ∈ l, staB s.Pairs = true ∧ ∀ x ∈ s.Pairs, ownerP p x.Key = s.Node) → (l.map (·.Node)).Nodup → (∀ x ∈ out, ∀ s ∈ l, ownerP p x.Key ≠ s.Node) →
    ∃ u, guP out l = (u, 0) ∧ staB u = true ∧ ∀ x, x ∈ u ↔ x ∈ out ∨ ∃ s ∈ l, x ∈ s.Pairs
  | [], out, ho, _, _, _ => ⟨out, by rw [guP], ho, by simp⟩
  | s :: l, out, ho, hs, hn, hd => by
    have h1 := hs s (by simp)
    rw [List.map_cons, List.nodup_cons] at hn
    obtain ⟨u, e1, e2, e3⟩ := union_dj ho h1.1 (fun x hx y hy e => by
      have a := hd x hx s (by simp)
      rw [e, h1.2 y hy] at a
      exact a rfl)
    obtain ⟨v, f1, f2, f3⟩ := gu_spec p l u e2 (fun x hx => hs x (by simp [hx])) hn.2 (fun x hx t ht => by
      rcases (e3 x).1 hx with h | h
      · exact hd x h t (by simp [ht])
      · rw [h1.2 x h]
        intro e
        exact hn.1 (List.mem_map.2 ⟨t, ht, e.symm⟩))
    refine ⟨v, ?_, f2, fun x => ?_⟩
    · rw [guP, e1]; exact f1
    · rw [f3, e3, or_assoc]
      simp

theorem gth_spec {p : TPlacement} {l : List TShard} (h : dvB p l = true) : ∃ u, gthP l = (u, 0) ∧ staB u = true ∧ ∀ x, x ∈ u ↔ ∃ s ∈ l, x ∈ s.Pairs := by
  obtain ⟨h1, h2, h3⟩ := dv_iff.1 h
  have hasc : ascI (l.map (·.Node)) := by rw [h2]; exact nodesRef_asc p
  have hnd : (l.map (·.Node)).Nodup := List.Pairwise.imp (fun h e => by omega) hasc
  have hbad : ((List.range l.length).any fun i => gthBad l i) = false := by
    rw [List.any_eq_false]
    intro i hi e
    have hi := List.mem_range.1 hi
    unfold gthBad at e
    rw [Bool.or_eq_true, Bool.and_eq_true, decide_eq_true_eq, decide_eq_true_eq, Bool.not_eq_true', atI_nat hi, (h3 _ (List.getElem_mem hi)).1] at e
    rcases e with ⟨h0, e⟩ | e
    · have := List.pairwise_iff_getElem.1 hasc (i - 1) i (by simp; omega) (by simpa using hi) (by omega)
      simp only [List.getElem_map] at this
      rw [show (i : Int) - 1 = ((i - 1 : Nat) : Int) by omega, atI_nat (show i - 1 < l.length by omega)] at e
      omega
    · simp at e
  obtain ⟨u, e1, e2, e3⟩ := gu_spec p l [] sta_nil h3 hnd (by simp)
  refine ⟨u, ?_, e2, fun x => ?_⟩
  · rw [gthP, hbad]; exact e1
  · rw [e3]; simp

/-! ### The pairs of a moving partition -/

def rngP (p : TPlacement) (k : Nat) : TRange := ⟨(ap p.Parts k).Done, nextF p.Parts k⟩

theorem rng_ok {p : TPlacement} (hp : POk p) {k : Nat} (hk : k < p.Parts.length) : RgOk (rngP p k) := by
  refine ⟨(hp.s _ (ap_mem hk)).2, ?_⟩
  show (nextF p.Parts k).length < big
  by_cases h : k + 1 < p.Parts.length
  · rw [nextF_eq h]; exact (hp.s _ (ap_mem h)).1
  · rw [nextF_last h]; decide

theorem sLt_nil_left {a b : Str} (h : sLt a b = true) : b ≠ [] := fun e => by rw [e, sLt_nil] at h; simp at h

theorem ct_part {p : TPlacement} (hv : pvB p = true) {k : Nat} (hk : k < p.Parts.length) (hd : (ap p.Parts k).Dest ≠ 0) {key : Str} (h : ctB (rngP p k) key = true) : InPart p.Parts k key ∧ sLt key (ap p.Parts k).Done = false := by
  have hP := pv_iff.1 hv
  unfold ctB at h
  rw [Bool.and_eq_true, Bool.and_eq_true, Bool.not_eq_true', Bool.or_eq_true, beq_iff_eq] at h
  obtain ⟨⟨_, h1⟩, h2⟩ := h
  have hm := (hP.mov k hk).dest hd
  have h1 : sLt key (ap p.Parts k).Done = false := h1
  refine ⟨⟨hk, le_le_trans hm.2.2.2.2.1 h1, fun hn => ?_⟩, h1⟩
  have h2 : (nextF p.Parts k = [] ∨ sLt key (nextF p.Parts k) = true) := h2
  rw [nextF_eq hn] at h2
  rcases h2 with h2 | h2
  · exact absurd h2 (sLt_nil_left (hP.asc k hn))
  · exact h2

theorem ct_owner {p : TPlacement} (hv : pvB p = true) {k : Nat} (hk : k < p.Parts.length) (hd : (ap p.Parts k).Dest ≠ 0) {key : Str} (h : ctB (rngP p k) key = true) : ownerP p key = (ap p.Parts k).Node := by
  obtain ⟨h1, h2⟩ := ct_part hv hk hd h
  rw [owner_of (pv_iff.1 hv) h1, partOwner, h2, Bool.and_false, if_neg (by simp)]

theorem part_node {p : TPlacement} (hv : pvB p = true) {k : Nat} (hk : k < p.Parts.length) : (ap p.Parts k).Node ∈ nodesRefP p := by
  have hn := (pv_iff.1 hv).node k hk
  rw [nodesRefP, if_pos hv, pickN_mem]
  exact ⟨by omega, by omega, (hasN_iff _ _ _).2 ⟨k, hk, .inl rfl⟩⟩

theorem part_dest {p : TPlacement} (hv : pvB p = true) {k : Nat} (hk : k < p.Parts.length) (hd : (ap p.Parts k).Dest ≠ 0) : (ap p.Parts k).Dest ∈ nodesRefP p := by
  have hm := ((pv_iff.1 hv).mov k hk).dest hd
  rw [nodesRefP, if_pos hv, pickN_mem]
  exact ⟨by omega, by omega, (hasN_iff _ _ _).2 ⟨k, hk, .inr rfl⟩⟩

/-- The rest of a moving partition, out of its node's shard. -/
def restP (l : List TShard) (nd : Int) (r : TRange) : List TPair := l.foldl (fun a s => cond (s.Node == nd) (slP s.Pairs r) a) []

theorem rest_fold (nd : Int) (r : TRange) : ∀ (l : List TShard) (a : List TPair), (∀ s ∈ l, s.Node ≠ nd) → l.foldl (fun a s => cond (s.Node == nd) (slP s.Pairs r) a) a = a
  | [], a, _ => rfl
  | s :: l, a, h => by
    rw [List.foldl_cons, show (s.Node == nd) = false by simpa using h s (by simp), cond_false]
    exact rest_fold nd r l a (fun x hx => h x (by simp [hx]))

theorem rest_one (nd : Int) (r : TRange) : ∀ (l : List TShard) (a : List TPair), (l.map (·.Node)).Nodup → ∀ s ∈ l, s.Node = nd → l.foldl (fun a s => cond (s.Node == nd) (slP s.Pairs r) a) a = slP s.Pairs r
  | [], _, _, s, hs, _ => by simp at hs
  | t :: l, a, hn, s, hs, e => by
    rw [List.map_cons, List.nodup_cons] at hn
    rw [List.foldl_cons]
    rcases List.mem_cons.1 hs with rfl | hs
    · rw [show (s.Node == nd) = true by simpa using e, cond_true]
      exact rest_fold nd r l _ (fun x hx e2 => hn.1 (List.mem_map.2 ⟨x, hx, by rw [e2, e]⟩))
    · exact rest_one nd r l _ hn.2 s hs e

theorem rest_eq {p : TPlacement} {l : List TShard} (h : dvB p l = true) {k : Nat} (hk : k < p.Parts.length) (hd : (ap p.Parts k).Dest ≠ 0) : restP l (ap p.Parts k).Node (rngP p k) = slP (gthP l).1 (rngP p k) := by
  obtain ⟨h1, h2, h3⟩ := dv_iff.1 h
  obtain ⟨u, e1, e2, e3⟩ := gth_spec h
  have hasc : ascI (l.map (·.Node)) := by rw [h2]; exact nodesRef_asc p
  have hnd : (l.map (·.Node)).Nodup := List.Pairwise.imp (fun h e => by omega) hasc
  obtain ⟨s, hs, hsn⟩ := List.mem_map.1 (show (ap p.Parts k).Node ∈ l.map (·.Node) by rw [h2]; exact part_node h1 hk)
  rw [restP, rest_one _ _ l [] hnd s hs hsn, e1]
  refine kasc_ext (List.Pairwise.filter _ (sta_iff.1 (h3 s hs).1).2) (List.Pairwise.filter _ (sta_iff.1 e2).2) fun x => ?_
  unfold slP
  rw [List.mem_filter, List.mem_filter, e3]
  constructor
  · rintro ⟨a, b⟩
    exact ⟨⟨s, hs, a⟩, b⟩
  · rintro ⟨⟨t, ht, a⟩, b⟩
    refine ⟨?_, b⟩
    have o1 := ct_owner h1 hk hd b
    have o2 := (h3 t ht).2 x a
    have : t.Node = s.Node := by rw [← o2, o1, hsn]
    have hts : t = s := by
      have key : ∀ (l : List TShard), (l.map (·.Node)).Nodup → ∀ t ∈ l, ∀ s ∈ l, t.Node = s.Node → t = s := by
        intro l
        induction l with
        | nil => intro _ t ht; simp at ht
        | cons y l ih =>
          intro hn t ht s hs e
          rw [List.map_cons, List.nodup_cons] at hn
          rcases List.mem_cons.1 ht with ht | ht <;> rcases List.mem_cons.1 hs with hs | hs
          · rw [ht, hs]
          · exact absurd (List.mem_map.2 ⟨s, hs, by rw [← e, ht]⟩) hn.1
          · exact absurd (List.mem_map.2 ⟨t, ht, by rw [e, hs]⟩) hn.1
          · exact ih hn.2 t ht s hs e
      exact key l hnd t ht s hs this
    rw [← hts]; exact a

/-! ### The functions -/

def movP (p : TPlacement) (l : List TShard) (id : Int) : Int × Int :=
  cond (dvB p l) (cond (decide (findP p.Parts id < 0)) (0, 9) (cond ((atI p.Parts (findP p.Parts id)).Dest == 0) (0, 19) (cond (p.Version == 1099511627776) (0, 2) (findP p.Parts id, 0)))) (0, 1)

theorem moving_impl {p : TPlacement} (hp : POk p) {l : List TShard} (hs : SOk l) (id : Int) : F_migrate_moving p l id = some (movP p l id) := by
  unfold F_migrate_moving movP
  rw [dvalid_impl hp hs, bnd_mk]
  cases dvB p l with
  | false => rfl
  | true =>
    rw [mfind_impl hp.l]
    simp only [Bool.not_true, cond_false, cond_true, bnd_mk]
    by_cases h : findP p.Parts id < 0
    · simp [h]
    · obtain ⟨k, e, hk⟩ := find_at h
      rw [e, decide_eq_false (show ¬ (k : Int) < 0 by omega), cond_false, cond_false, req_pos ⟨by omega, by omega⟩]
      cases ((atI p.Parts (k : Int)).Dest == 0) with
      | true => rfl
      | false => cases (p.Version == 1099511627776) <;> rfl

theorem mov_ok {p : TPlacement} {l : List TShard} {id : Int} (h : (movP p l id).2 = 0) : dvB p l = true ∧ ∃ k : Nat, (movP p l id).1 = (k : Int) ∧ findP p.Parts id = (k : Int) ∧ k < p.Parts.length ∧ (ap p.Parts k).Dest ≠ 0 ∧ (ap p.Parts k).Id = id ∧ p.Version ≠ 1099511627776 := by
  unfold movP at h ⊢
  cases hd : dvB p l with
  | false => rw [hd] at h; simp at h
  | true =>
    rw [hd] at h
    simp only [cond_true] at h ⊢
    by_cases h0 : findP p.Parts id < 0
    · simp [h0] at h
    · obtain ⟨k, e, hk⟩ := find_at h0
      rw [e, decide_eq_false (show ¬ (k : Int) < 0 by omega), cond_false] at h ⊢
      cases h1 : ((atI p.Parts (k : Int)).Dest == 0) with
      | true => rw [h1] at h; simp at h
      | false =>
        rw [h1] at h
        cases h2 : (p.Version == 1099511627776) with
        | true => rw [h2] at h; simp at h
        | false => exact ⟨trivial, k, rfl, rfl, hk, fun e0 => by rw [show (atI p.Parts (k : Int)).Dest = 0 from e0] at h1; simp at h1, (findP_spec e).2, by simpa using h2⟩

theorem moved_impl {q : TPlacement} (hq : POk q) {l : List TShard} (hs : SOk l) : F_migrate_moved q l = some (loadP q (gthP l).1) := by
  obtain ⟨h1, h2⟩ := gth_inv hs
  unfold F_migrate_moved
  rw [gather_impl hs, bnd_mk, load_impl hq h1 (by omega), bnd_mk]

def noP : TPlacement := ⟨0, []⟩
def noC : TChunk := ⟨0, 0, 0, (default : TRange), [], false⟩

/-- The partition behind a chunk. -/
def nxtX (x : TPart) (rest : List TPair) (n : Int) : TPart := cond (decide (((rest.length : Nat) : Int) ≤ n)) ⟨x.Id, x.From, x.Dest, 0, []⟩ ⟨x.Id, x.From, x.Node, x.Dest, (atI rest n).Key⟩
/-- The chunk. -/
def nxtC (x : TPart) (r : TRange) (rest : List TPair) (n : Int) : TChunk := cond (decide (((rest.length : Nat) : Int) ≤ n)) ⟨x.Id, x.Node, x.Dest, r, rest, true⟩ ⟨x.Id, x.Node, x.Dest, ⟨r.From, (atI rest n).Key⟩, rest.take n.toNat, false⟩

def ckP (p : TPlacement) (l : List TShard) (id n : Int) : TPlacement × List TShard × TChunk × Int :=
  cond (decide (n < 1)) (noP, [], noC, 1) (cond ((movP p l id).2 != 0) (noP, [], noC, (movP p l id).2)
    (chP p (movP p l id).1 (nxtX (atI p.Parts (movP p l id).1) (slP (gthP l).1 (rngP p (movP p l id).1.toNat)) n),
     loadP (chP p (movP p l id).1 (nxtX (atI p.Parts (movP p l id).1) (slP (gthP l).1 (rngP p (movP p l id).1.toNat)) n)) (gthP l).1,
     nxtC (atI p.Parts (movP p l id).1) (rngP p (movP p l id).1.toNat) (slP (gthP l).1 (rngP p (movP p l id).1.toNat)) n, 0))

theorem nxtX_ok {p : TPlacement} (hp : POk p) {l : List TShard} (hs : SOk l) {k : Nat} (hk : k < p.Parts.length) (r : TRange) {n : Int} (hn : 1 ≤ n) : (nxtX (atI p.Parts (k : Int)) (slP (gthP l).1 r) n).From.length < big ∧ (nxtX (atI p.Parts (k : Int)) (slP (gthP l).1 r) n).Done.length < big := by
  obtain ⟨h1, h2⟩ := gth_inv hs
  have hx := hp.s _ (at_mem29 hk)
  unfold nxtX
  by_cases h : (((slP (gthP l).1 r).length : Nat) : Int) ≤ n
  · rw [decide_eq_true h]; exact ⟨hx.1, by show ([] : Str).length < big; decide⟩
  · rw [decide_eq_false h]
    refine ⟨hx.1, ?_⟩
    show (atI (slP (gthP l).1 r) n).Key.length < big
    obtain ⟨m, e⟩ : ∃ m : Nat, n = (m : Int) := ⟨n.toNat, by omega⟩
    rw [e] at h ⊢
    exact (h1.k _ (List.mem_filter.1 (at_mem29 (l := slP (gthP l).1 r) (i := m) (by omega))).1).1

theorem chunk_impl {p : TPlacement} (hp : POk p) (hpl : p.Parts.length ≤ 1000) {l : List TShard} (hs : SOk l) (id n : Int) : F_migrate_Chunk p l id n = some (ckP p l id n) := by
  unfold F_migrate_Chunk ckP
  by_cases h : n < 1
  · simp [h, noP, noC]
  rw [decide_eq_false h, cond_false, cond_false, moving_impl hp hs, bnd_mk]
  cases hm : ((movP p l id).2 != 0) with
  | true => rfl
  | false =>
    obtain ⟨hdv, k, e, ef, hk, hdest, hid, hver⟩ := mov_ok (p := p) (l := l) (id := id) (by simpa using hm)
    have hv := (dv_iff.1 hdv).1
    obtain ⟨g1, g2⟩ := gth_inv hs
    have hrg := rng_ok hp hk
    have hn := hs.n
    have hX := nxtX_ok hp hs hk (rngP p k) (n := n) (by omega)
    have hidk : (atI p.Parts (k : Int)).Id = id := hid
    rw [cond_false, cond_false, req_pos ⟨by omega, by omega⟩, range_impl hp.l hp.s, bnd_mk]
    have er : (rangeP p id).1.To = nextF p.Parts k := by
      rw [rangeP, if_neg (by simp [hv]), ef, if_neg (by omega)]; rfl
    simp only [jn_mk]
    have hL : ∀ J : List TPair → Option (TPlacement × List TShard × TChunk × Int), F_migrate_Chunk_L1 l p (movP p l id) (rangeP p id) J (((l.length : Nat) : Int).toNat + 1) [] 0 = J (slP (gthP l).1 (rngP p k)) := by
      intro J
      rw [← rest_eq hdv hk hdest]
      refine loopFold (l := l) (by omega) (L := fun n a i => F_migrate_Chunk_L1 l p (movP p l id) (rangeP p id) J n a i) (J := J) (f := fun a s => cond (s.Node == (ap p.Parts k).Node) (slP s.Pairs (rngP p k)) a) (fun _ _ => True) ?_ ?_ ?_ (by omega) trivial
      · intro n i a hi _
        have hm := hs.p _ (List.getElem_mem hi)
        try dsimp only
        rw [F_migrate_Chunk_L1, e, er]
        simp only [show (i : Int) < (l.length : Int) by omega, decide_true, cond_true, show 0 ≤ (i : Int) by omega, and_self, req_t, atI_nat hi, jn_mk]
        rw [show (⟨(atI p.Parts (k : Int)).Done, nextF p.Parts k⟩ : TRange) = rngP p k from rfl, slice_impl (by omega) hrg, bnd_mk]
        rw [show (atI p.Parts (k : Int)).Node = (ap p.Parts k).Node from rfl]
        cases (l[i].Node == (ap p.Parts k).Node) <;> rfl
      · intros; trivial
      · intro n a _
        try dsimp only
        rw [F_migrate_Chunk_L1]
        simp
    rw [hL]
    rw [e, er, Int.toNat_natCast]
    unfold nxtX nxtC at *
    by_cases hlast : (((slP (gthP l).1 (rngP p k)).length : Nat) : Int) ≤ n
    · rw [decide_eq_true hlast] at hX ⊢
      rw [decide_eq_false (show ¬ n < (((slP (gthP l).1 (rngP p k)).length : Nat) : Int) by omega)]
      simp only [cond_true, cond_false] at hX ⊢
      rw [changed_impl (by omega) hk, bnd_mk, moved_impl (hp.ch hX) hs, bnd_mk, hidk]
      rfl
    · rw [decide_eq_false hlast] at hX ⊢
      rw [decide_eq_true (show n < (((slP (gthP l).1 (rngP p k)).length : Nat) : Int) by omega)]
      simp only [cond_false, cond_true] at hX ⊢
      have hsl : (slP (gthP l).1 (rngP p k)).length ≤ 10000 := Nat.le_trans (List.length_filter_le _ _) g2
      rw [req_pos ⟨by omega, by omega⟩, req_pos ⟨by omega, by omega⟩, req_pos (by omega), req_pos ⟨by omega, by omega⟩, changed_impl (by omega) hk, bnd_mk, moved_impl (hp.ch hX) hs, bnd_mk, hidk]
      have ec : cpL (slP (gthP l).1 (rngP p k)) (List.replicate n.toNat (default : TPair)) = (slP (gthP l).1 (rngP p k)).take n.toNat := by
        rw [cpL, List.length_replicate, List.drop_of_length_le (by simp; omega), List.append_nil]
      rw [ec]
      rfl

def cnP (p : TPlacement) (l : List TShard) (id : Int) : TPlacement × List TShard × Int :=
  cond ((movP p l id).2 != 0) (noP, [], (movP p l id).2)
    (chP p (movP p l id).1 ⟨(atI p.Parts (movP p l id).1).Id, (atI p.Parts (movP p l id).1).From, (atI p.Parts (movP p l id).1).Node, 0, []⟩,
     loadP (chP p (movP p l id).1 ⟨(atI p.Parts (movP p l id).1).Id, (atI p.Parts (movP p l id).1).From, (atI p.Parts (movP p l id).1).Node, 0, []⟩) (gthP l).1, 0)

theorem cancel_impl {p : TPlacement} (hp : POk p) (hpl : p.Parts.length ≤ 1000) {l : List TShard} (hs : SOk l) (id : Int) : F_migrate_Cancel p l id = some (cnP p l id) := by
  unfold F_migrate_Cancel cnP
  rw [moving_impl hp hs, bnd_mk]
  cases hm : ((movP p l id).2 != 0) with
  | true => rfl
  | false =>
    obtain ⟨hdv, k, e, ef, hk, hdest, hid, hver⟩ := mov_ok (p := p) (l := l) (id := id) (by simpa using hm)
    rw [cond_false, cond_false, e, req_pos ⟨by omega, by omega⟩, changed_impl (by omega) hk, bnd_mk, moved_impl (hp.ch (x := ⟨(atI p.Parts (k : Int)).Id, (atI p.Parts (k : Int)).From, (atI p.Parts (k : Int)).Node, 0, []⟩) ⟨(hp.s _ (at_mem29 hk)).1, by show ([] : Str).length < big; decide⟩) hs, bnd_mk]

end Go.Proofs.Ytedbagekceppiaa
