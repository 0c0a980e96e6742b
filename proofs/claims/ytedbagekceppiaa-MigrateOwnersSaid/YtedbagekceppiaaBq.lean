/-
  Chapter 33, plain texts: ranges, slices; shards, loaded, tested and gathered.
  Conditions: none.
-/
import Derived.Test.YtedbagekceppiaaBp
import Derived.Test.YtedbagekceppiaaBx
set_option linter.all false
namespace Go.Proofs.Ytedbagekceppiaa

/-! ### Ranges -/

theorem bound04 {s : Str} (hs : s.length < big) : F_clockworkref04_Bound s = some (boundB s) := by
  unfold F_clockworkref04_Bound
  simp only [jn_mk]
  have e2 : decide ((s.length : Int) ≤ 24) = decide (s.length ≤ 24) := by rw [Bool.eq_iff_iff]; simp; omega
  rw [e2]
  refine (loopRng (len := s.length) (L := fun n i => F_clockworkref04_Bound_L1 s (some (decide (s.length ≤ 24))) n i) (q := fun i => decide (byteAt s i < 33) || decide (126 < byteAt s i)) (E := some false) (J := some (decide (s.length ≤ 24))) hs (by omega) ?_ ?_).trans ?_
  · intro n i hi
    try dsimp only
    rw [F_clockworkref04_Bound_L1]
    simp only [show (i : Int) < (s.length : Int) by omega, decide_true, cond_true, show 0 ≤ (i : Int) by omega, true_and, implies_true, req_t, Int.toNat_natCast]
  · intro n
    try dsimp only
    rw [F_clockworkref04_Bound_L1]
    simp
  · rw [boundB]
    cases ((List.range s.length).any fun i => decide (byteAt s i < 33) || decide (126 < byteAt s i)) <;> simp

theorem isBound_impl {s : Str} (hs : s.length < big) : F_keys_isBound s = some (boundB s) := by
  unfold F_keys_isBound F_keys_consists
  by_cases h : s.length ≤ 24
  · have e : decide ((24 : Int) < (s.length : Int)) = false := by simp; omega
    rw [e, cond_false, jn_mk]
    rw [(loopRng (len := s.length) (L := fun n i => F_keys_consists_L1 s (fun y0 => F_keys_isBound_1 y0) (some true) n i) (q := fun i => decide (byteAt s i < 33) || decide (126 < byteAt s i)) (E := some false) (J := some true) hs (n := (s.length : Int).toNat + 1) (by omega) ?_ ?_)]
    · rw [boundB]
      cases ((List.range s.length).any fun i => decide (byteAt s i < 33) || decide (126 < byteAt s i)) <;> simp [h]
    · intro n i hi
      try dsimp only
      rw [F_keys_consists_L1]
      have e3 : (!((decide ((33 : Int) ≤ byteAt s i)) && (decide (byteAt s i ≤ (126 : Int))))) = (decide (byteAt s i < 33) || decide (126 < byteAt s i)) := by
        rw [Bool.eq_iff_iff]; simp <;> omega
      simp only [show (i : Int) < (s.length : Int) by omega, decide_true, cond_true, show 0 ≤ (i : Int) by omega, true_and, implies_true, req_t, Int.toNat_natCast, F_keys_isBound_1, bnd_mk, e3]
    · intro n
      try dsimp only
      rw [F_keys_consists_L1]
      simp
  · have e : decide ((24 : Int) < (s.length : Int)) = true := by simp; omega
    rw [e, cond_true]
    simp [boundB, h]

structure RgOk (r : TRange) : Prop where
  f : r.From.length < big
  t : r.To.length < big

def vrB (r : TRange) : Bool := (boundB r.From && boundB r.To) && ((r.To == ([] : Str)) || (sLt r.From r.To))
def ctB (r : TRange) (k : Str) : Bool := (vrB r && (!sLt k r.From)) && ((r.To == ([] : Str)) || (sLt k r.To))

theorem vrange_impl {r : TRange} (h : RgOk r) : F_keys_ValidRange r = some (vrB r) := by
  unfold F_keys_ValidRange vrB
  rw [isBound_impl h.f, isBound_impl h.t]
  cases boundB r.From <;> simp [gcall, bnd]

theorem vrange_ref {r : TRange} (h : RgOk r) : F_clockworkref04_ValidRange r = some (vrB r) := by
  unfold F_clockworkref04_ValidRange vrB
  rw [bound04 h.f, bound04 h.t]
  cases boundB r.From <;> simp [gcall, bnd]

theorem contains_impl {r : TRange} (h : RgOk r) (k : Str) : F_keys_Contains r k = some (ctB r k) := by
  unfold F_keys_Contains ctB
  rw [vrange_impl h]; rfl

theorem contains_ref {r : TRange} (h : RgOk r) (k : Str) : F_clockworkref04_Contains r k = some (ctB r k) := by
  unfold F_clockworkref04_Contains ctB
  rw [vrange_ref h]; rfl

def slP (l : List TPair) (r : TRange) : List TPair := l.filter fun x => ctB r x.Key

theorem slice_impl {l : List TPair} (hl : l.length ≤ 1000000) {r : TRange} (h : RgOk r) : F_state_Slice l r = some (slP l r) := by
  unfold F_state_Slice
  simp only [jn_mk]
  refine loopFilter (l := l) (by omega) (L := fun n a i => F_state_Slice_L1 l r (fun x6 => some x6) n a i) (J := fun x6 => some x6) (p := fun x => ctB r x.Key) ?_ ?_ (n := ((l.length : Nat) : Int).toNat + 1) (by omega)
  · intro n i acc hi hacc
    try dsimp only
    rw [F_state_Slice_L1]
    have hb : (acc ++ [l[i]]).length * 48 ≤ 140737488355328 := by simp; omega
    simp only [show (i : Int) < (l.length : Int) by omega, decide_true, cond_true, show 0 ≤ (i : Int) by omega, and_self, req_t, atI_nat hi, contains_impl h, bnd_mk, jn_mk, hb]
  · intro n acc _
    try dsimp only
    rw [F_state_Slice_L1]
    simp

theorem sta_filter {l : List TPair} (h : staB l = true) (g : TPair → Bool) : staB (l.filter g) = true := by
  obtain ⟨h1, h2⟩ := sta_iff.1 h
  exact sta_iff.2 ⟨fun x hx => h1 x (List.mem_filter.1 hx).1, List.Pairwise.filter _ h2⟩

theorem PrOk.filter {l : List TPair} (h : PrOk l) (g : TPair → Bool) : PrOk (l.filter g) := h.sub (Nat.lt_of_le_of_lt (List.length_filter_le _ _) h.l) (fun x hx => (List.mem_filter.1 hx).1)

theorem owner_node {p : TPlacement} (hv : pvB p = true) (k : Str) : ownerP p k ∈ nodesRefP p := by
  have hr := owner_rng hv k
  have hP := pv_iff.1 hv
  obtain ⟨i, e, hi⟩ := index_in hP k
  have hlt : i < p.Parts.length := by
    have := indexP_bd (p := p) (key := k) (by rw [e]; omega)
    rw [e] at this; omega
  rw [nodesRefP, if_pos hv, pickN_mem]
  refine ⟨by omega, by omega, (hasN_iff _ _ _).2 ⟨i, hlt, ?_⟩⟩
  rw [owner_of hP hi, partOwner]
  split
  · exact .inr rfl
  · exact .inl rfl

theorem nodesRef_asc (p : TPlacement) : ascI (nodesRefP p) := by
  unfold nodesRefP
  split
  · exact pickN_asc _ _
  · exact List.Pairwise.nil

/-- What a node owns of a state. -/
def shP (p : TPlacement) (state : List TPair) (nd : Int) : TShard := ⟨nd, state.filter fun x => ownerP p x.Key == nd⟩

structure SOk (l : List TShard) : Prop where
  n : l.length ≤ 100
  p : ∀ s ∈ l, PrOk s.Pairs ∧ s.Pairs.length ≤ 100

theorem owned_impl {p : TPlacement} (hp : POk p) (hv : pvB p = true) {l : List TPair} (hl : l.length ≤ 1000000) (nd : Int) : F_dist_owned p l nd = some (l.filter fun x => ownerP p x.Key == nd) := by
  unfold F_dist_owned
  simp only [jn_mk]
  refine loopFilter (l := l) (by omega) (L := fun n a i => F_dist_owned_L1 l p nd (fun x8 => some x8) n a i) (J := fun x8 => some x8) (p := fun x => ownerP p x.Key == nd) ?_ ?_ (n := ((l.length : Nat) : Int).toNat + 1) (by omega)
  · intro n i acc hi hacc
    try dsimp only
    rw [F_dist_owned_L1]
    have hb : (acc ++ [l[i]]).length * 48 ≤ 140737488355328 := by simp; omega
    simp only [show (i : Int) < (l.length : Int) by omega, decide_true, cond_true, show 0 ≤ (i : Int) by omega, and_self, req_t, atI_nat hi, owner_impl hp.l hp.s (pv_from hv), bnd_mk, jn_mk, hb]
  · intro n acc _
    try dsimp only
    rw [F_dist_owned_L1]
    simp

def loadP (p : TPlacement) (l : List TPair) : List TShard := if (pvB p && staB l) = true then (nodesRefP p).map (shP p l) else []

theorem load_impl {p : TPlacement} (hp : POk p) {l : List TPair} (hs : PrOk l) (hl : l.length ≤ 1000000) : F_dist_Load p l = some (loadP p l) := by
  unfold F_dist_Load loadP
  rw [valid29_impl hp.l hp.s, svalid_impl hs, bnd_mk]
  cases hv : pvB p with
  | false => rfl
  | true =>
    cases hst : staB l with
    | false => rfl
    | true =>
      have hn := nodesRef_len p
      simp only [Bool.not_true, BEq.rfl, gcall_t, bnd_mk, Bool.or_self, cond_false, jn_mk, Bool.and_self, if_true]
      rw [nodes_impl hp.l hp.s, bnd_mk, nodes_eq]
      refine loopMap (l := nodesRefP p) (by omega) (L := fun n a i => F_dist_Load_L1 (nodesRefP p) p l (fun x14 => some x14) n a i) (J := fun x14 => some x14) (g := shP p l) ?_ ?_ (n := (((nodesRefP p).length : Nat) : Int).toNat + 1) (by omega)
      · intro n i acc hi hacc
        try dsimp only
        rw [F_dist_Load_L1]
        simp only [show (i : Int) < ((nodesRefP p).length : Int) by omega, decide_true, cond_true, show 0 ≤ (i : Int) by omega, and_self, req_t, atI_nat hi, owned_impl hp hv hl, bnd_mk]
        rw [req_pos (by simp; omega)]
        rfl
      · intro n acc _
        try dsimp only
        rw [F_dist_Load_L1]
        simp

theorem load_ref {p : TPlacement} (hp : POk p) {l : List TPair} (hs : PrOk l) (hl : l.length ≤ 1000000) : F_clockworkref32_Load p l = some (loadP p l) := by
  unfold F_clockworkref32_Load loadP
  rw [valid29_ref hp.l hp.s, svalid_ref hs, bnd_mk]
  cases hv : pvB p with
  | false => rfl
  | true =>
    cases hst : staB l with
    | false => rfl
    | true =>
      have hn := nodesRef_len p
      simp only [Bool.not_true, BEq.rfl, gcall_t, bnd_mk, Bool.or_self, cond_false, jn_mk, Bool.and_self, if_true]
      rw [nodes_ref hp.l hp.s, bnd_mk]
      refine loopMap (l := nodesRefP p) (by omega) (L := fun n a i => F_clockworkref32_Load_L1 (nodesRefP p) l p (fun x14 => some x14) n a i) (J := fun x14 => some x14) (g := shP p l) ?_ ?_ (n := (((nodesRefP p).length : Nat) : Int).toNat + 1) (by omega)
      · intro n i acc hi hacc
        try dsimp only
        rw [F_clockworkref32_Load_L1]
        simp only [show (i : Int) < ((nodesRefP p).length : Int) by omega, decide_true, cond_true, show 0 ≤ (i : Int) by omega, and_self, req_t, atI_nat hi, jn_mk]
        have hL2 : ∀ (J : List TShard → List TPair → Option (List TShard)), F_clockworkref32_Load_L2 l (i : Int) (nodesRefP p) p J (((l.length : Nat) : Int).toNat + 1) acc [] 0 = J acc (l.filter fun x => ownerP p x.Key == (nodesRefP p)[i]) := by
          intro J
          refine loopFilter (l := l) hs.l (L := fun n a k => F_clockworkref32_Load_L2 l (i : Int) (nodesRefP p) p J n acc a k) (J := fun a => J acc a) (p := fun x => ownerP p x.Key == (nodesRefP p)[i]) ?_ ?_ (by omega)
          · intro n k a hk ha
            try dsimp only
            rw [F_clockworkref32_Load_L2]
            have hb : (a ++ [l[k]]).length * 48 ≤ 140737488355328 := by simp; omega
            simp only [show (k : Int) < (l.length : Int) by omega, show (i : Int) < ((nodesRefP p).length : Int) by omega, decide_true, cond_true, show 0 ≤ (k : Int) by omega, show 0 ≤ (i : Int) by omega, and_self, req_t, atI_nat hk, atI_nat hi, owner_ref hp.l hp.s, bnd_mk, jn_mk, hb]
          · intro n a _
            try dsimp only
            rw [F_clockworkref32_Load_L2]
            simp
        rw [hL2, req_pos (by simp; omega)]
        rfl
      · intro n acc _
        try dsimp only
        rw [F_clockworkref32_Load_L1]
        simp

def shBad (p : TPlacement) (s : TShard) (nd : Int) : Bool := ((s.Node != nd) || !staB s.Pairs) || (s.Pairs.any fun x => ownerP p x.Key != s.Node)
def dvB (p : TPlacement) (l : List TShard) : Bool := pvB p && decide (l.length = (nodesRefP p).length) && !((List.range l.length).any fun i => shBad p (atI l (i : Int)) (atI (nodesRefP p) (i : Int)))

theorem filt_len {α : Type} (q : α → Bool) : ∀ l : List α, ((((l.filter q).length : Nat) : Int) != ((l.length : Nat) : Int)) = l.any fun x => !q x
  | [] => by simp
  | x :: l => by
    have ih := filt_len q l
    cases h : q x with
    | true =>
      rw [List.filter_cons_of_pos h, List.any_cons, h, ← ih, Bool.not_true, Bool.false_or]
      rw [Bool.eq_iff_iff]; simp only [bne_iff_ne, List.length_cons]; omega
    | false =>
      rw [List.filter_cons_of_neg (by simpa using h), List.any_cons, h, Bool.not_false, Bool.true_or]
      have := List.length_filter_le q l
      rw [bne_iff_ne, List.length_cons]; omega

theorem dvalid_impl {p : TPlacement} (hp : POk p) {l : List TShard} (hs : SOk l) : F_dist_Valid p l = some (dvB p l) := by
  unfold F_dist_Valid dvB
  have hln := hs.n
  rw [nodes_impl hp.l hp.s, valid29_impl hp.l hp.s, bnd_mk, bnd_mk, nodes_eq]
  cases hv : pvB p with
  | false => rfl
  | true =>
    have hn := nodesRef_len p
    simp only [Bool.not_true, Bool.false_or, Bool.true_and]
    by_cases hlen : l.length = (nodesRefP p).length
    · rw [show (((l.length : Nat) : Int) != (((nodesRefP p).length : Nat) : Int)) = false by simp [hlen], cond_false, jn_mk, decide_eq_true hlen, Bool.true_and]
      refine (loopRng (len := l.length) (by omega) (L := fun n i => F_dist_Valid_L1 l (nodesRefP p) p (some true) n i) (q := fun i => shBad p (atI l (i : Int)) (atI (nodesRefP p) (i : Int))) (E := some false) (J := some true) (n := ((l.length : Nat) : Int).toNat + 1) (by omega) ?_ ?_).trans ?_
      · intro n i hi
        have hm := hs.p _ (at_mem29 hi)
        try dsimp only
        rw [F_dist_Valid_L1]
        simp only [show (i : Int) < (l.length : Int) by omega, show (i : Int) < ((nodesRefP p).length : Int) by omega, decide_true, cond_true, show 0 ≤ (i : Int) by omega, and_self, req_t, svalid_impl hm.1, owned_impl hp hv (show (atI l (i : Int)).Pairs.length ≤ 1000000 by omega), shBad]
        cases hnd : ((atI l (i : Int)).Node != (atI (nodesRefP p) (i : Int))) with
        | true => simp [gcall, bnd]
        | false =>
          simp only [BEq.rfl, gcall_t, bnd_mk, Bool.false_or]
          cases hst : staB (atI l (i : Int)).Pairs with
          | false => simp [gcall, bnd]
          | true =>
            simp only [Bool.not_true, BEq.rfl, gcall_t, bnd_mk, Bool.false_or, filt_len]
            rfl
      · intro n
        try dsimp only
        rw [F_dist_Valid_L1]
        simp
      · cases ((List.range l.length).any fun i => shBad p (atI l (i : Int)) (atI (nodesRefP p) (i : Int))) <;> rfl
    · rw [show (((l.length : Nat) : Int) != (((nodesRefP p).length : Nat) : Int)) = true by simp; omega, cond_true, decide_eq_false hlen]
      rfl

def gthBad (l : List TShard) (i : Nat) : Bool := (decide (0 < i) && decide ((atI l (i : Int)).Node ≤ (atI l ((i : Int) - 1)).Node)) || !staB (atI l (i : Int)).Pairs
def guP : List TPair → List TShard → List TPair × Int
  | out, [] => (out, 0)
  | out, s :: l => cond ((unionP out s.Pairs).2 != 0) ([], (unionP out s.Pairs).2) (guP (unionP out s.Pairs).1 l)
def gthP (l : List TShard) : List TPair × Int := cond ((List.range l.length).any fun i => gthBad l i) ([], 1) (guP [] l)

theorem union_inv {a b : List TPair} (ha : PrOk a) (hb : PrOk b) (hab : a.length + b.length < 9223372036854775808) : (unionP a b).1.length ≤ a.length + b.length ∧ PrOk (unionP a b).1 := by
  have h1 := mg_len a b
  have h2 := mg_sub a b
  unfold unionP
  cases staB a && staB b with
  | false => exact ⟨by simp, PrOk.nil⟩
  | true =>
    cases (mg a b).2 with
    | true => exact ⟨by simp, PrOk.nil⟩
    | false =>
      refine ⟨h1, ⟨by show (mg a b).1.length < _; omega, fun x hx => ?_⟩⟩
      rcases h2 x hx with h | h
      · exact ha.k x h
      · exact hb.k x h

theorem gather_impl {l : List TShard} (hs : SOk l) : F_dist_Gather l = some (gthP l) := by
  have hln := hs.n
  unfold F_dist_Gather gthP
  simp only [jn_mk]
  refine (loopRng (len := l.length) (by omega) (L := fun n i => F_dist_Gather_L2 l (F_dist_Gather_L1 l (fun x6 => some (x6, (0 : Int))) (((l.length : Nat) : Int).toNat + 1) [] 0) n i) (q := fun i => gthBad l i) (E := some ([], 1)) (J := F_dist_Gather_L1 l (fun x6 => some (x6, (0 : Int))) (((l.length : Nat) : Int).toNat + 1) [] 0) (n := ((l.length : Nat) : Int).toNat + 1) (by omega) ?_ ?_).trans ?_
  · intro n i hi
    have hm := hs.p _ (at_mem29 hi)
    try dsimp only
    rw [F_dist_Gather_L2]
    simp only [show (i : Int) < (l.length : Int) by omega, decide_true, cond_true, show 0 ≤ (i : Int) by omega, and_self, req_t, svalid_impl hm.1, gthBad]
    by_cases h0 : 0 < i
    · have h0' : (0 : Int) < (i : Int) := by omega
      simp only [h0', h0, decide_true, BEq.rfl, forall_const, cond_true, Bool.true_and, wrap_pred h0 (by omega)]
      rw [req_pos (by omega)]
      cases decide ((atI l (i : Int)).Node ≤ (atI l ((i : Int) - 1)).Node) <;> simp [gcall, bnd]
    · have h0' : ¬ (0 : Int) < (i : Int) := by omega
      simp [h0', h0, req, gcall, bnd]
  · intro n
    try dsimp only
    rw [F_dist_Gather_L2]
    simp
  · cases ((List.range l.length).any fun i => gthBad l i) with
    | true => rfl
    | false =>
      rw [cond_false, cond_false]
      have key : ∀ n (i : Nat) (out : List TPair), i ≤ l.length → l.length - i < n → out.length ≤ 100 * i → PrOk out → F_dist_Gather_L1 l (fun x6 => some (x6, (0 : Int))) n out (i : Int) = some (guP out (l.drop i)) := by
        intro n
        induction n with
        | zero => intro i _ _ h; omega
        | succ n ih =>
          intro i out hi hn hlen hok
          rw [F_dist_Gather_L1]
          rcases Nat.lt_or_ge i l.length with hlt | hge
          · have hm := hs.p _ (List.getElem_mem hlt)
            have hu := union_inv hok hm.1 (by omega)
            rw [List.drop_eq_getElem_cons hlt, guP]
            simp only [show (i : Int) < (l.length : Int) by omega, decide_true, cond_true, show 0 ≤ (i : Int) by omega, and_self, req_t, atI_nat hlt]
            rw [union_impl hok hm.1 (by omega), bnd_mk]
            cases ((unionP out l[i].Pairs).2 != 0) with
            | true => rfl
            | false =>
              rw [cond_false, cond_false, wrap_succ (by omega)]
              exact ih (i + 1) _ (by omega) (by omega) (by omega) hu.2
          · have : i = l.length := by omega
            subst this
            simp [guP]
      have := key (((l.length : Nat) : Int).toNat + 1) 0 [] (by omega) (by omega) (by simp) PrOk.nil
      simpa using this

theorem gu_inv : ∀ {l : List TShard} {out : List TPair} {m : Nat}, (∀ s ∈ l, PrOk s.Pairs ∧ s.Pairs.length ≤ 100) → PrOk out → out.length + 100 * l.length ≤ m → m ≤ 100000 → PrOk (guP out l).1 ∧ (guP out l).1.length ≤ m
  | [], out, m, _, h, hl, _ => by rw [guP]; exact ⟨h, by simpa using hl⟩
  | s :: l, out, m, hs, h, hl, hm => by
    have h1 := hs s (by simp)
    rw [List.length_cons] at hl
    have hu := union_inv h h1.1 (by omega)
    rw [guP]
    cases ((unionP out s.Pairs).2 != 0) with
    | true => exact ⟨PrOk.nil, by simp⟩
    | false => exact gu_inv (fun x hx => hs x (by simp [hx])) hu.2 (by omega) hm

theorem gth_inv {l : List TShard} (hs : SOk l) : PrOk (gthP l).1 ∧ (gthP l).1.length ≤ 10000 := by
  unfold gthP
  have hn := hs.n
  cases ((List.range l.length).any fun i => gthBad l i) with
  | true => exact ⟨PrOk.nil, by simp⟩
  | false => exact gu_inv hs.p PrOk.nil (by simp; omega) (by omega)

end Go.Proofs.Ytedbagekceppiaa
