/-
  Chapter 33, plain texts: a placement in the middle of a move; what one chunk does.
  Conditions: none.
-/
import Derived.Test.YtedbagekceppiaaBt
set_option linter.all false
namespace Go.Proofs.Ytedbagekceppiaa

theorem ap_set {l : List TPart} {k i : Nat} {x : TPart} (hk : k < l.length) : ap (l.set k x) i = if i = k then x else ap l i := by
  unfold ap atI
  simp only [Int.toNat_natCast, List.getD_eq_getElem?_getD, List.getElem?_set]
  by_cases h : k = i
  · subst h; simp [hk]
  · simp [h, Ne.symm h]

theorem nextF_set {l : List TPart} {k i : Nat} {x : TPart} (hk : k < l.length) (hf : x.From = (ap l k).From) : nextF (l.set k x) i = nextF l i := by
  by_cases h : i + 1 < l.length
  · rw [nextF_eq h, nextF_eq (by simpa using h), ap_set hk]
    split
    · rename_i e; rw [hf, e]
    · rfl
  · rw [nextF_last h, nextF_last (by simpa using h)]

theorem from_set {l : List TPart} {k i : Nat} {x : TPart} (hk : k < l.length) (hf : x.From = (ap l k).From) : (ap (l.set k x) i).From = (ap l i).From := by
  rw [ap_set hk]
  split
  · rename_i e; rw [hf, e]
  · rfl

theorem pv_set {v w : Int} {l : List TPart} (h : PV v l) {k : Nat} (hk : k < l.length) {x : TPart} (hid : x.Id = (ap l k).Id) (hf : x.From = (ap l k).From) (hn : 1 ≤ x.Node ∧ x.Node ≤ 16) (hm : MovOk x (nextF l k) (decide (k + 1 = l.length))) (hw : 0 ≤ w ∧ w ≤ 1099511627776) : PV w (l.set k x) := by
  have eid : ∀ i, (ap (l.set k x) i).Id = (ap l i).Id := fun i => by
    rw [ap_set hk]
    split
    · rename_i e; rw [hid, e]
    · rfl
  have hlen : (l.set k x).length = l.length := List.length_set
  refine ⟨hw, by rw [hlen]; exact h.len, by rw [from_set hk hf]; exact h.head, fun i hi => ?_, fun i hi => ?_, fun i hi => ?_, fun i hi => ?_, fun i hi => ?_, fun i j hj hi => ?_⟩
  · rw [hlen] at hi; rw [from_set hk hf]; exact h.bnd i hi
  · rw [hlen] at hi; rw [from_set hk hf, from_set hk hf]; exact h.asc i hi
  · rw [hlen] at hi; rw [eid]; exact h.id i hi
  · rw [hlen] at hi; rw [ap_set hk]
    split
    · exact hn
    · exact h.node i hi
  · rw [hlen] at hi ⊢; rw [nextF_set hk hf, ap_set hk]
    split
    · rename_i e; rw [e]; exact hm
    · exact h.mov i hi
  · rw [hlen] at hi; rw [eid, eid]; exact h.uniq i j hj hi

theorem in_set {l : List TPart} {k i : Nat} {x : TPart} (hk : k < l.length) (hf : x.From = (ap l k).From) {key : Str} : InPart (l.set k x) i key ↔ InPart l i key := by
  have hlen : (l.set k x).length = l.length := List.length_set
  constructor
  · rintro ⟨a, b, c⟩
    rw [hlen] at a c
    rw [from_set hk hf] at b c
    exact ⟨a, b, c⟩
  · rintro ⟨a, b, c⟩
    exact ⟨by rw [hlen]; exact a, by rw [from_set hk hf]; exact b, by rw [hlen, from_set hk hf]; exact c⟩

theorem owner_set {P : TPlacement} {w : Int} {k : Nat} (hk : k < P.Parts.length) {x : TPart} (hf : x.From = (ap P.Parts k).From) (hq : PV w (P.Parts.set k x)) {key : Str} {i : Nat} (hi : InPart P.Parts i key) :
    ownerP ⟨w, P.Parts.set k x⟩ key = partOwner (if i = k then x else ap P.Parts i) key := by
  rw [owner_of (p := ⟨w, P.Parts.set k x⟩) hq ((in_set hk hf).2 hi), ap_set hk]

theorem kv_bound {s : Str} (h : kvB s = true) : boundB s = true ∧ s ≠ [] := by
  unfold kvB at h
  rw [Bool.and_eq_true, Bool.and_eq_true, decide_eq_true_eq, decide_eq_true_eq, Bool.not_eq_true', List.any_eq_false] at h
  obtain ⟨⟨h1, h2⟩, h3⟩ := h
  refine ⟨?_, fun e => by rw [e] at h1; simp at h1⟩
  unfold boundB
  rw [Bool.and_eq_true, decide_eq_true_eq, Bool.not_eq_true', List.any_eq_false]
  refine ⟨h2, fun i hi => ?_⟩
  have hk : kch (byteAt s i) = true := by simpa using h3 i hi
  unfold kch at hk
  simp only [Bool.or_eq_true, Bool.and_eq_true, decide_eq_true_eq, beq_iff_eq] at hk
  rw [Bool.or_eq_true, decide_eq_true_eq, decide_eq_true_eq]
  omega

/-! ### A move -/

structure MV (Q : TPlacement) (j : Nat) (m : Int) : Prop where
  v : pvB Q = true
  k : j < Q.Parts.length
  d : (ap Q.Parts j).Dest = 0
  ne : (ap Q.Parts j).Node ≠ m
  nd : 1 ≤ m ∧ m ≤ 16
  ver : Q.Version ≤ 1099511627746

def mX (P : TPlacement) (k : Nat) (node : Int) (done : Str) : TPart := ⟨(ap P.Parts k).Id, (ap P.Parts k).From, (ap P.Parts k).Node, node, done⟩
def eX (P : TPlacement) (k : Nat) (nd : Int) : TPart := ⟨(ap P.Parts k).Id, (ap P.Parts k).From, nd, 0, []⟩
def mpl (P : TPlacement) (k : Nat) (node : Int) (done : Str) (w : Int) : TPlacement := ⟨w, P.Parts.set k (mX P k node done)⟩
def epl (P : TPlacement) (k : Nat) (nd : Int) (w : Int) : TPlacement := ⟨w, P.Parts.set k (eX P k nd)⟩

structure DnOk (P : TPlacement) (k : Nat) (done : Str) : Prop where
  b : boundB done = true
  lo : sLt done (ap P.Parts k).From = false
  hi : k + 1 < P.Parts.length → sLt done (ap P.Parts (k + 1)).From = true

variable {P : TPlacement} {k : Nat} {node : Int}

theorem MV.pv (h : MV P k node) : PV P.Version P.Parts := pv_iff.1 h.v

theorem mpl_pv (h : MV P k node) {done : Str} (hd : DnOk P k done) {w : Int} (hw : 0 ≤ w ∧ w ≤ 1099511627776) : PV w (P.Parts.set k (mX P k node done)) := by
  refine pv_set h.pv h.k rfl rfl (h.pv.node k h.k) ⟨fun e => ?_, fun _ => ⟨h.nd.1, h.nd.2, fun e => h.ne e.symm, hd.b, hd.lo, ?_⟩⟩ hw
  · have := h.nd.1
    exact absurd (show node = 0 from e) (by omega)
  · by_cases hn : k + 1 < P.Parts.length
    · right; rw [nextF_eq hn]; exact hd.hi hn
    · left; have := h.k; simp; omega

theorem mpl_v (h : MV P k node) {done : Str} (hd : DnOk P k done) {w : Int} (hw : 0 ≤ w ∧ w ≤ 1099511627776) : pvB (mpl P k node done w) = true := pv_iff.2 (mpl_pv h hd hw)

theorem epl_pv (h : MV P k node) {nd : Int} (hnd : 1 ≤ nd ∧ nd ≤ 16) {w : Int} (hw : 0 ≤ w ∧ w ≤ 1099511627776) : PV w (P.Parts.set k (eX P k nd)) :=
  pv_set h.pv h.k rfl rfl hnd ⟨fun _ => rfl, fun e => absurd rfl e⟩ hw

theorem epl_v (h : MV P k node) {nd : Int} (hnd : 1 ≤ nd ∧ nd ≤ 16) {w : Int} (hw : 0 ≤ w ∧ w ≤ 1099511627776) : pvB (epl P k nd w) = true := pv_iff.2 (epl_pv h hnd hw)

theorem epl_back (h : MV P k node) (w : Int) : epl P k (ap P.Parts k).Node w = ⟨w, P.Parts⟩ := by
  unfold epl
  congr 1
  have hm := h.pv.mov k h.k
  have : eX P k (ap P.Parts k).Node = ap P.Parts k := by
    unfold eX
    rw [← hm.done h.d]
    have hd := h.d
    cases hx : ap P.Parts k with
    | mk a b c d e =>
      rw [hx] at hd
      simp only at hd ⊢
      rw [hd]
  rw [this, ap_get h.k]
  simp

theorem own_m (h : MV P k node) {done : Str} (hd : DnOk P k done) {w : Int} (hw : 0 ≤ w ∧ w ≤ 1099511627776) {key : Str} {i : Nat} (hi : InPart P.Parts i key) :
    ownerP (mpl P k node done w) key = if i = k then (if sLt key done = true then node else (ap P.Parts k).Node) else ownerP P key := by
  have hne : (node != 0) = true := by have := h.nd.1; rw [bne_iff_ne]; omega
  rw [mpl, owner_set (x := mX P k node done) h.k rfl (mpl_pv h hd hw) hi]
  split
  · show partOwner (mX P k node done) key = _
    unfold partOwner mX
    rw [hne, Bool.true_and]
  · rw [owner_of h.pv hi]

theorem own_e (h : MV P k node) {nd : Int} (hnd : 1 ≤ nd ∧ nd ≤ 16) {w : Int} (hw : 0 ≤ w ∧ w ≤ 1099511627776) {key : Str} {i : Nat} (hi : InPart P.Parts i key) :
    ownerP (epl P k nd w) key = if i = k then nd else ownerP P key := by
  rw [epl, owner_set (x := eX P k nd) h.k rfl (epl_pv h hnd hw) hi]
  split
  · rfl
  · rw [owner_of h.pv hi]

/-! ### Loaded shards -/

theorem load_dv {p : TPlacement} (hv : pvB p = true) {state : List TPair} (hst : staB state = true) : dvB p (loadP p state) = true := by
  rw [loadP, hv, hst, Bool.and_self, if_pos rfl]
  refine dv_iff.2 ⟨hv, ?_, fun s hs => ?_⟩
  · rw [List.map_map]
    exact List.map_id' _
  · obtain ⟨nd, _, rfl⟩ := List.mem_map.1 hs
    exact ⟨sta_filter hst _, fun x hx => eq_of_beq (List.mem_filter.1 hx).2⟩

theorem load_gth {p : TPlacement} (hv : pvB p = true) {state : List TPair} (hst : staB state = true) : gthP (loadP p state) = (state, 0) := by
  obtain ⟨u, e1, e2, e3⟩ := gth_spec (load_dv hv hst)
  rw [e1, kasc_ext (sta_iff.1 e2).2 (sta_iff.1 hst).2 fun x => ?_]
  rw [e3, loadP, hv, hst, Bool.and_self, if_pos rfl]
  constructor
  · rintro ⟨s, hs, hx⟩
    obtain ⟨nd, _, rfl⟩ := List.mem_map.1 hs
    exact (List.mem_filter.1 hx).1
  · intro hx
    exact ⟨shP p state (ownerP p x.Key), List.mem_map.2 ⟨_, owner_node hv _, rfl⟩, List.mem_filter.2 ⟨hx, by simp⟩⟩

theorem load_ok (p : TPlacement) {state : List TPair} (hs : PrOk state) (hl : state.length ≤ 100) : SOk (loadP p state) := by
  obtain ⟨h1, h2⟩ := load_len p state
  refine ⟨by omega, fun s hm => ?_⟩
  have := h2 s hm
  refine ⟨?_, by omega⟩
  unfold loadP at hm
  split at hm
  · obtain ⟨nd, _, rfl⟩ := List.mem_map.1 hm
    exact hs.filter _
  · simp at hm

/-! ### One chunk -/

theorem rng_m (h : MV P k node) (done : Str) (w : Int) : rngP (mpl P k node done w) k = ⟨done, nextF P.Parts k⟩ := by
  unfold rngP mpl
  rw [ap_set h.k, if_pos rfl]
  show (⟨done, nextF (P.Parts.set k (mX P k node done)) k⟩ : TRange) = _
  rw [nextF_set (x := mX P k node done) h.k rfl]

theorem vr_m (h : MV P k node) {done : Str} (hd : DnOk P k done) : vrB ⟨done, nextF P.Parts k⟩ = true := by
  unfold vrB
  rw [Bool.and_eq_true, Bool.and_eq_true, Bool.or_eq_true, beq_iff_eq]
  show (boundB done = true ∧ boundB (nextF P.Parts k) = true) ∧ (nextF P.Parts k = [] ∨ sLt done (nextF P.Parts k) = true)
  by_cases hn : k + 1 < P.Parts.length
  · rw [nextF_eq hn]; exact ⟨⟨hd.b, h.pv.bnd _ hn⟩, .inr (hd.hi hn)⟩
  · rw [nextF_last hn]; exact ⟨⟨hd.b, rfl⟩, .inl rfl⟩

theorem mov_m (h : MV P k node) {done : Str} (hd : DnOk P k done) {w : Int} (hw : 0 ≤ w ∧ w < 1099511627776) {state : List TPair} (hst : staB state = true) :
    movP (mpl P k node done w) (loadP (mpl P k node done w) state) (ap P.Parts k).Id = ((k : Int), 0) := by
  have hpv := mpl_pv h hd (w := w) ⟨hw.1, by omega⟩
  have hv : pvB (mpl P k node done w) = true := pv_iff.2 hpv
  have hlen : k < (P.Parts.set k (mX P k node done)).length := by rw [List.length_set]; exact h.k
  have hap : ap (P.Parts.set k (mX P k node done)) k = mX P k node done := by rw [ap_set h.k, if_pos rfl]
  have hfind : findP (mpl P k node done w).Parts (ap P.Parts k).Id = (k : Int) := by
    have := findP_of hpv hlen
    rw [hap] at this
    exact this
  have hat : atI (mpl P k node done w).Parts (k : Int) = mX P k node done := hap
  rw [movP, load_dv hv hst, cond_true, hfind, decide_eq_false (show ¬ (k : Int) < 0 by omega), cond_false, hat]
  have h1 : ((mX P k node done).Dest == 0) = false := by have := h.nd.1; show (node == 0) = false; rw [beq_eq_false_iff_ne]; omega
  have h2 : ((mpl P k node done w).Version == 1099511627776) = false := by show (w == 1099511627776) = false; rw [beq_eq_false_iff_ne]; omega
  rw [h1, h2]; rfl

/-- What is left to move. -/
def rstP (P : TPlacement) (k : Nat) (done : Str) (state : List TPair) : List TPair := slP state ⟨done, nextF P.Parts k⟩

def nxtQ (P : TPlacement) (k : Nat) (node : Int) (done : Str) (w : Int) (state : List TPair) (n : Int) : TPlacement :=
  cond (decide ((((rstP P k done state).length : Nat) : Int) ≤ n)) (epl P k node (w + 1)) (mpl P k node (atI (rstP P k done state) n).Key (w + 1))

theorem step_ck (h : MV P k node) {done : Str} (hd : DnOk P k done) {w : Int} (hw : 0 ≤ w ∧ w < 1099511627776) {state : List TPair} (hst : staB state = true) {n : Int} (hn : 1 ≤ n) :
    ckP (mpl P k node done w) (loadP (mpl P k node done w) state) (ap P.Parts k).Id n =
      (nxtQ P k node done w state n, loadP (nxtQ P k node done w state n) state, nxtC (mX P k node done) ⟨done, nextF P.Parts k⟩ (rstP P k done state) n, 0) := by
  have hv := mpl_v h hd (w := w) ⟨hw.1, by omega⟩
  have hat : atI (mpl P k node done w).Parts (k : Int) = mX P k node done := by
    have : ap (P.Parts.set k (mX P k node done)) k = mX P k node done := by rw [ap_set h.k, if_pos rfl]
    exact this
  have hw1 : IntKind.i64.wrap (w + 1) = w + 1 := w64 (by omega) (by omega)
  rw [ckP, mov_m h hd hw hst, load_gth hv hst, decide_eq_false (show ¬ n < 1 by omega), cond_false, show (((k : Int), (0 : Int)).2 != 0) = false from rfl, cond_false]
  simp only [Int.toNat_natCast, hat, rng_m h]
  rw [show slP state ⟨done, nextF P.Parts k⟩ = rstP P k done state from rfl]
  have hQ : chP (mpl P k node done w) (k : Int) (nxtX (mX P k node done) (rstP P k done state) n) = nxtQ P k node done w state n := by
    unfold chP nxtX nxtQ
    rw [show (mpl P k node done w).Version = w from rfl, hw1, Int.toNat_natCast]
    cases decide ((((rstP P k done state).length : Nat) : Int) ≤ n) with
    | true =>
      show (⟨w + 1, (P.Parts.set k (mX P k node done)).set k (eX P k node)⟩ : TPlacement) = epl P k node (w + 1)
      rw [List.set_set]; rfl
    | false =>
      show (⟨w + 1, (P.Parts.set k (mX P k node done)).set k (mX P k node _)⟩ : TPlacement) = mpl P k node _ (w + 1)
      rw [List.set_set]; rfl
  rw [hQ]

/-- The pairs of the next chunk's end. -/
theorem rest_at {state : List TPair} (hst : staB state = true) {r : TRange} {n : Int} (hn : 0 ≤ n) (hl : n < (((slP state r).length : Nat) : Int)) :
    (atI (slP state r) n) ∈ slP state r ∧ kvB (atI (slP state r) n).Key = true ∧ ctB r (atI (slP state r) n).Key = true := by
  obtain ⟨m, e⟩ : ∃ m : Nat, n = (m : Int) := ⟨n.toNat, by omega⟩
  rw [e] at hl ⊢
  have hm := at_mem29 (l := slP state r) (i := m) (by omega)
  obtain ⟨h1, h2⟩ := List.mem_filter.1 hm
  exact ⟨hm, ((sta_iff.1 hst).1 _ h1).1, h2⟩

theorem step_dn (h : MV P k node) {done : Str} (hd : DnOk P k done) {state : List TPair} (hst : staB state = true) {n : Int} (hn : 1 ≤ n) (hl : n < (((rstP P k done state).length : Nat) : Int)) : DnOk P k (atI (rstP P k done state) n).Key := by
  obtain ⟨h1, h2, h3⟩ := rest_at hst (by omega) hl
  unfold rstP
  have hc := h3
  unfold ctB at hc
  rw [Bool.and_eq_true, Bool.and_eq_true, Bool.not_eq_true', Bool.or_eq_true, beq_iff_eq] at hc
  obtain ⟨⟨_, c1⟩, c2⟩ := hc
  have c1 : sLt (atI (slP state ⟨done, nextF P.Parts k⟩) n).Key done = false := c1
  refine ⟨(kv_bound h2).1, le_le_trans hd.lo c1, fun hk => ?_⟩
  have c2 : nextF P.Parts k = [] ∨ sLt (atI (slP state ⟨done, nextF P.Parts k⟩) n).Key (nextF P.Parts k) = true := c2
  rcases c2 with c2 | c2
  · exact absurd (by rw [← nextF_eq hk]; exact c2) (sLt_nil_left (h.pv.asc k hk))
  · rw [← nextF_eq hk]; exact c2

theorem step_v (h : MV P k node) {done : Str} (hd : DnOk P k done) {w : Int} (hw : 0 ≤ w ∧ w < 1099511627776) {state : List TPair} (hst : staB state = true) {n : Int} (hn : 1 ≤ n) : pvB (nxtQ P k node done w state n) = true := by
  unfold nxtQ
  by_cases hl : (((rstP P k done state).length : Nat) : Int) ≤ n
  · rw [decide_eq_true hl]; exact epl_v h h.nd (by omega)
  · rw [decide_eq_false hl]; exact mpl_v h (step_dn h hd hst hn (by omega)) (by omega)

theorem nxtQ_ver (done : Str) (w : Int) (state : List TPair) (n : Int) : (nxtQ P k node done w state n).Version = w + 1 := by
  unfold nxtQ
  cases decide ((((rstP P k done state).length : Nat) : Int) ≤ n) <;> rfl

theorem nxtQ_len (done : Str) (w : Int) (state : List TPair) (n : Int) : (nxtQ P k node done w state n).Parts.length = P.Parts.length := by
  unfold nxtQ
  cases decide ((((rstP P k done state).length : Nat) : Int) ≤ n)
  · exact List.length_set
  · exact List.length_set

theorem mpl_ok (hp : POk P) (hk : k < P.Parts.length) {done : Str} (hd : done.length < big) (w : Int) : POk (mpl P k node done w) := by
  refine ⟨?_, fun y hy => ?_⟩
  · show (P.Parts.set k (mX P k node done)).length < big
    rw [List.length_set]; exact hp.l
  · rcases List.mem_or_eq_of_mem_set (show y ∈ P.Parts.set k (mX P k node done) from hy) with e | e
    · exact hp.s y e
    · rw [e]; exact ⟨(hp.s _ (ap_mem hk)).1, hd⟩

theorem epl_ok (hp : POk P) (hk : k < P.Parts.length) (nd w : Int) : POk (epl P k nd w) := by
  refine ⟨?_, fun y hy => ?_⟩
  · show (P.Parts.set k (eX P k nd)).length < big
    rw [List.length_set]; exact hp.l
  · rcases List.mem_or_eq_of_mem_set (show y ∈ P.Parts.set k (eX P k nd) from hy) with e | e
    · exact hp.s y e
    · rw [e]; exact ⟨(hp.s _ (ap_mem hk)).1, by show (0 : Nat) < big; decide⟩

theorem bound_len {s : Str} (h : boundB s = true) : s.length < big := by
  unfold boundB at h
  rw [Bool.and_eq_true, decide_eq_true_eq] at h
  have e : big = 9223372036854775808 := rfl
  rw [e]; omega

theorem nxtQ_ok (hp : POk P) (h : MV P k node) {done : Str} (hd : DnOk P k done) (w : Int) {state : List TPair} (hst : staB state = true) {n : Int} (hn : 1 ≤ n) : POk (nxtQ P k node done w state n) := by
  unfold nxtQ
  by_cases hl : (((rstP P k done state).length : Nat) : Int) ≤ n
  · rw [decide_eq_true hl]; exact epl_ok hp h.k _ _
  · rw [decide_eq_false hl]; exact mpl_ok hp h.k (bound_len (step_dn h hd hst hn (by omega)).b) _

/-! ### The chunk's range -/

def nxtR (P : TPlacement) (k : Nat) (done : Str) (state : List TPair) (n : Int) : TRange :=
  cond (decide ((((rstP P k done state).length : Nat) : Int) ≤ n)) ⟨done, nextF P.Parts k⟩ ⟨done, (atI (rstP P k done state) n).Key⟩

theorem asc_take : ∀ {l : List TPair} {n : Nat} (h : kAsc l) (hn : n < l.length), l.take n = l.filter fun x => sLt x.Key l[n].Key
  | x :: l, 0, h, hn => by
    obtain ⟨h1, h2⟩ := List.pairwise_cons.1 h
    symm
    rw [List.take_zero, List.filter_eq_nil_iff]
    intro y hy
    rw [List.getElem_cons_zero]
    rcases List.mem_cons.1 hy with rfl | hy
    · rw [sLt_irrefl]; simp
    · rw [sLt_asymm' (h1 y hy)]; simp
  | x :: l, n + 1, h, hn => by
    obtain ⟨h1, h2⟩ := List.pairwise_cons.1 h
    have hn' : n < l.length := by simpa using hn
    rw [List.take_succ_cons, List.getElem_cons_succ, List.filter_cons_of_pos (by exact h1 _ (List.getElem_mem hn')), asc_take h2 hn']

theorem rest_first {l : List TPair} (h : kAsc l) {n : Nat} (h0 : 0 < n) (hn : n < l.length) : sLt l[0].Key l[n].Key = true := List.pairwise_iff_getElem.1 h 0 n (by omega) hn h0

theorem step_rng (h : MV P k node) {done : Str} (hd : DnOk P k done) {state : List TPair} (hst : staB state = true) {n : Int} (hn : 1 ≤ n) :
    vrB (nxtR P k done state n) = true ∧ (nxtC (mX P k node done) ⟨done, nextF P.Parts k⟩ (rstP P k done state) n).Pairs = slP state (nxtR P k done state n) := by
  unfold nxtR nxtC
  by_cases hl : (((rstP P k done state).length : Nat) : Int) ≤ n
  · rw [decide_eq_true hl]; exact ⟨vr_m h hd, rfl⟩
  · rw [decide_eq_false hl]
    obtain ⟨h1, h2, h3⟩ := rest_at (r := ⟨done, nextF P.Parts k⟩) hst (n := n) (by omega) (by unfold rstP at hl; omega)
    obtain ⟨m, e⟩ : ∃ m : Nat, n = (m : Int) := ⟨n.toNat, by omega⟩
    have hm : m < (rstP P k done state).length := by omega
    have hasc : kAsc (rstP P k done state) := List.Pairwise.filter _ (sta_iff.1 hst).2
    have hvr := vr_m h hd
    have hc : ∀ key, ctB ⟨done, nextF P.Parts k⟩ key = true → sLt key done = false := fun key hk => by
      unfold ctB at hk
      rw [Bool.and_eq_true, Bool.and_eq_true, Bool.not_eq_true'] at hk
      exact hk.1.2
    have hend : vrB ⟨done, (atI (rstP P k done state) n).Key⟩ = true := by
      unfold vrB
      rw [Bool.and_eq_true, Bool.and_eq_true, Bool.or_eq_true]
      refine ⟨⟨hd.b, (kv_bound h2).1⟩, .inr ?_⟩
      show sLt done (atI (rstP P k done state) n).Key = true
      have h0 := hc _ (List.mem_filter.1 (List.getElem_mem (show 0 < (rstP P k done state).length by omega))).2
      rw [e, atI_nat hm]
      exact le_sLt_trans h0 (rest_first hasc (by omega) hm)
    refine ⟨hend, ?_⟩
    show (rstP P k done state).take n.toNat = slP state ⟨done, (atI (rstP P k done state) n).Key⟩
    rw [show slP state ⟨done, nextF P.Parts k⟩ = rstP P k done state from rfl] at h1 h2 h3
    rw [e, Int.toNat_natCast, asc_take hasc hm]
    rw [e, atI_nat hm] at h2 h3 hend
    rw [atI_nat hm]
    generalize (rstP P k done state)[m].Key = z at h2 h3 hend ⊢
    show List.filter (fun x => sLt x.Key z) (state.filter fun x => ctB ⟨done, nextF P.Parts k⟩ x.Key) = state.filter fun x => ctB ⟨done, z⟩ x.Key
    rw [List.filter_filter]
    refine List.filter_congr fun x _ => ?_
    have hz : (z == ([] : Str)) = false := by simpa using (kv_bound h2).2
    unfold ctB at h3 ⊢
    rw [Bool.and_eq_true, Bool.or_eq_true, beq_iff_eq] at h3
    rw [hvr, hend, Bool.true_and]
    show (sLt x.Key z && ((!sLt x.Key done) && ((nextF P.Parts k == ([] : Str)) || sLt x.Key (nextF P.Parts k)))) = ((!sLt x.Key done) && ((z == ([] : Str)) || sLt x.Key z))
    rw [hz, Bool.false_or]
    cases hk : sLt x.Key z with
    | false => simp
    | true =>
      have hn2 : ((nextF P.Parts k == ([] : Str)) || sLt x.Key (nextF P.Parts k)) = true := by
        rw [Bool.or_eq_true, beq_iff_eq]
        rcases h3.2 with g | g
        · exact .inl g
        · exact .inr (sLt_trans hk g)
      rw [hn2]
      simp

/-- What a chunk does to the owner of a key. -/
theorem step_own (h : MV P k node) {done : Str} (hd : DnOk P k done) {w : Int} (hw : 0 ≤ w ∧ w < 1099511627776) {state : List TPair} (hst : staB state = true) {n : Int} (hn : 1 ≤ n) (key : Str) :
    (ctB (nxtR P k done state n) key = true → ownerP (mpl P k node done w) key = (ap P.Parts k).Node ∧ ownerP (nxtQ P k node done w state n) key = node) ∧
    (ctB (nxtR P k done state n) key = false → ownerP (nxtQ P k node done w state n) key = ownerP (mpl P k node done w) key) := by
  obtain ⟨i, _, hi⟩ := index_in h.pv key
  have hm := own_m h hd (w := w) ⟨hw.1, by omega⟩ hi
  have hvr := (step_rng (node := node) h hd hst hn).1
  have hct : ∀ r : TRange, vrB r = true → (ctB r key = true ↔ sLt key r.From = false ∧ (r.To = [] ∨ sLt key r.To = true)) := fun r hr => by
    unfold ctB
    rw [hr, Bool.true_and, Bool.and_eq_true, Bool.not_eq_true', Bool.or_eq_true, beq_iff_eq]
  have hct2 : ∀ r : TRange, vrB r = true → (ctB r key = false ↔ ¬ (sLt key r.From = false ∧ (r.To = [] ∨ sLt key r.To = true))) := fun r hr => by
    rw [← hct r hr, Bool.not_eq_true]
  -- where the key stands: within the range of the partition or not
  have hin : (sLt key done = false ∧ (nextF P.Parts k = [] ∨ sLt key (nextF P.Parts k) = true)) → i = k := fun ⟨a, b⟩ => by
    refine InPart.unique h.pv hi ⟨h.k, le_le_trans hd.lo a, fun hk => ?_⟩
    rw [nextF_eq hk] at b
    rcases b with b | b
    · exact absurd b (sLt_nil_left (h.pv.asc k hk))
    · exact b
  have hout : i = k → (nextF P.Parts k = [] ∨ sLt key (nextF P.Parts k) = true) := fun e => by
    subst e
    by_cases hk : i + 1 < P.Parts.length
    · right; rw [nextF_eq hk]; exact hi.hi hk
    · left; exact nextF_last hk
  unfold nxtQ
  unfold nxtR at hvr ⊢
  by_cases hl : (((rstP P k done state).length : Nat) : Int) ≤ n
  · rw [decide_eq_true hl] at hvr ⊢
    simp only [cond_true] at hvr ⊢
    have he := own_e h h.nd (w := w + 1) (by omega) hi
    rw [hct _ hvr, hct2 _ hvr]
    refine ⟨fun g => ?_, fun g => ?_⟩
    · have hik := hin g
      rw [hm, he, if_pos hik, if_pos hik, if_neg (by rw [show sLt key done = false from g.1]; simp)]
      exact ⟨rfl, rfl⟩
    · rw [hm, he]
      by_cases hik : i = k
      · rw [if_pos hik, if_pos hik]
        cases hsd : sLt key done with
        | true => rfl
        | false => exact absurd ⟨hsd, hout hik⟩ g
      · rw [if_neg hik, if_neg hik]
  · rw [decide_eq_false hl] at hvr ⊢
    simp only [cond_false] at hvr ⊢
    have hd2 := step_dn h hd hst hn (by omega)
    obtain ⟨h1, h2, h3⟩ := rest_at (r := ⟨done, nextF P.Parts k⟩) hst (n := n) (by omega) (by unfold rstP at hl; omega)
    rw [show slP state ⟨done, nextF P.Parts k⟩ = rstP P k done state from rfl] at h1 h2 h3
    have hz := (kv_bound h2).2
    have he := own_m h hd2 (w := w + 1) (by omega) hi
    rw [hct _ hvr, hct2 _ hvr]
    have h3' : sLt (atI (rstP P k done state) n).Key done = false ∧ (nextF P.Parts k = [] ∨ sLt (atI (rstP P k done state) n).Key (nextF P.Parts k) = true) := by
      unfold ctB at h3
      rw [Bool.and_eq_true, Bool.and_eq_true, Bool.not_eq_true', Bool.or_eq_true, beq_iff_eq] at h3
      exact ⟨h3.1.2, h3.2⟩
    refine ⟨fun g => ?_, fun g => ?_⟩
    · have g2 : sLt key (atI (rstP P k done state) n).Key = true := by
        rcases g.2 with g2 | g2
        · exact absurd g2 hz
        · exact g2
      have hik := hin ⟨g.1, by
        rcases h3'.2 with a | a
        · exact .inl a
        · exact .inr (sLt_trans g2 a)⟩
      rw [hm, he, if_pos hik, if_pos hik, if_pos g2, if_neg (by rw [show sLt key done = false from g.1]; simp)]
      exact ⟨rfl, rfl⟩
    · rw [hm, he]
      by_cases hik : i = k
      · rw [if_pos hik, if_pos hik]
        cases hsd : sLt key done with
        | true =>
          rw [if_pos (show sLt key (atI (rstP P k done state) n).Key = true from sLt_le_trans hsd h3'.1), if_pos rfl]
        | false =>
          have : sLt key (atI (rstP P k done state) n).Key = false := by
            cases e : sLt key (atI (rstP P k done state) n).Key with
            | false => rfl
            | true => exact absurd ⟨hsd, .inr e⟩ g
          rw [this]
      · rw [if_neg hik, if_neg hik]

end Go.Proofs.Ytedbagekceppiaa
