/-
  THE LAW VerifyHistories IN PLAIN LEAN: strings are no longer than memory is (reachBytes).
-/
import Derived.Test.YtonijgmopcmldaaGreatRh
import Derived.SizedLaws
set_option linter.all false
namespace Go.Proofs.YtonijgmopcmldaaGreat
open Go.ChangeShapes Go.WideShapes Go.ChangeAt Go.RowKit

def OpensR {α : Type} [Inhabited α] (P : Program) (t : Nat) (c : Cd α) (ok : α → Prop) : Prop :=
  ∀ (H : Type) (enc : TypeId × Value → H) (W : World) (fuel : Nat) (cs : List Value) (d : DataW H × List MemPlace), DataW.trod enc P W 0 (fun _ => true) true fuel t cs = some d → (∀ n ∈ d.1.weights P t, n ≤ reachBytes) → ∃ x, c.rep (fun a => W.cell? a) x cs ∧ ok x

def okSR (s : Str) : Prop := s.length ≤ 200000000000000

theorem Opens.toR {α : Type} [Inhabited α] {P : Program} {t : Nat} {c : Cd α} {ok : α → Prop} (h : Opens P t c ok) : OpensR P t c ok := fun H enc W fuel cs d hd _ => h H enc W fuel cs d hd

theorem opensR_str {P : Program} {t : Nat} (ht : P.underlying t = some .string) : OpensR P t cStr okSR := by
  intro H enc W fuel cs d h hw
  obtain ⟨s, rfl, rfl, hs⟩ := DataW.trod_string ht h
  refine ⟨s.data.toList, rfl, ?_⟩
  have := hw s.data.toList.length (by simp [DataW.weights])
  exact Nat.le_trans this (by decide)

theorem weights_all {H : Type} {P : Program} {e : TypeId} {d : DataW H} : ∀ {l : List (DataW H)}, d ∈ l → ∀ n ∈ d.weights P e, n ∈ DataW.weightsAll P e l
  | x :: l, hd, n, hn => by
    simp only [DataW.weightsAll, List.mem_append]
    rcases List.mem_cons.1 hd with rfl | hd
    · exact .inl hn
    · exact .inr (weights_all hd n hn)

theorem opensR_slice {α : Type} [Inhabited α] {P : Program} {t e : Nat} {c : Cd α} {ok : α → Prop} (ht : P.underlying t = some (.slice e)) (hsz : P.cellsOf e = c.sz) (he : OpensR P e c ok) : OpensR P t (cSl c) (okL ok) := by
  intro H enc W fuel cs d h hw
  rcases Go.Deep.open_slice ht h with ⟨rfl, _⟩ | ⟨a, len, cap, m, n, D, Pl, rfl, _, hlc, hcm, hm, rfl, hel⟩
  · exact ⟨[], ⟨none, 0, rfl, SlAt.nil⟩, by simp [okL]⟩
  · simp only [if_true] at hm
    subst hm
    have hwi : ∀ i, i < len → ∀ n ∈ (D i).weights P e, n ≤ reachBytes := fun i hi n hn => by
      refine hw n ?_
      simp only [DataW.weights, ht, List.mem_cons, List.mem_append]
      exact .inr (.inl (weights_all (List.mem_map.2 ⟨i, List.mem_range.2 hi, rfl⟩) n hn))
    have hsp0 : 0 < len → a.spot = none := by
      intro hl0
      obtain ⟨cs', k1, _⟩ := hel 0 (by omega)
      obtain ⟨_, k5, k6⟩ := World.cells?_some k1
      rw [hsz] at k5 k6
      have h0 := k6 0 c.pos
      have hlt : 0 < cs'.length := by rw [k5]; exact c.pos
      rw [List.getElem?_eq_getElem hlt] at h0
      unfold World.cell? at h0
      split at h0
      · split at h0
        · simp at h0
        · rename_i hs
          cases hq : a.spot with
          | none => rfl
          | some q =>
            exfalso
            apply hs
            simp [Addr.add, hq]
      · simp at h0
    have hall : ∀ i, i < len → ∃ x, (∃ cs', c.rep (fun a => W.cell? a) x cs' ∧ RdAt (fun a => W.cell? a) (some a) (i * c.sz) cs') ∧ ok x := by
      intro i hi
      obtain ⟨cs', k1, k2⟩ := hel i (by omega)
      obtain ⟨x, k3, k4⟩ := he H enc W n cs' _ k2 (hwi i hi)
      obtain ⟨_, k5, k6⟩ := World.cells?_some k1
      rw [hsz] at k1 k5 k6
      have hsp : a.spot = none := hsp0 (by omega)
      refine ⟨x, ⟨cs', k3, a.block, a.off, ?_, fun j v hj => ?_⟩, k4⟩
      · cases a
        simp only at hsp
        subst hsp
        rfl
      · have hj' := (List.getElem?_eq_some_iff.1 hj).1
        have := k6 j (by omega)
        rw [hj] at this
        rw [← this]
        congr 1
        cases a
        simp only at hsp
        subst hsp
        simp [Addr.add_lit]
    obtain ⟨l, h1, h2⟩ := exists_list hall
    refine ⟨l, ⟨some a, m, by rw [h1], by omega, fun i x hx => (h2 i x hx).1⟩, ?_, ?_⟩
    · simp only [maxLen] at hcm
      omega
    · intro x hx
      obtain ⟨i, hi, rfl⟩ := List.mem_iff_getElem.1 hx
      exact (h2 i _ (List.getElem?_eq_getElem hi)).2

theorem fieldR {α : Type} [Inhabited α] {P : Program} {W : World} {H : Type} {enc : TypeId × Value → H} {t n sz : Nat} {cs : List Value} {fs : Array Field} {xs : List (DataW H × List MemPlace)} {c : Cd α} {ok : α → Prop} {f : Field} (ht : P.underlying t = some (.struct fs))
    (hf : ∀ (i : Nat) (f : Field), fs[i]? = some f → DataW.trod enc P W 0 (fun _ => true) true n f.type ((cs.drop f.offset).take (P.cellsOf f.type)) = xs[i]?) (hxs : xs.length = fs.size)
    (hw : ∀ m ∈ (DataW.agg (xs.map (·.1))).weights P t, m ≤ reachBytes)
    (i : Nat) (hi : fs[i]? = some f) (hsz : P.cellsOf f.type = sz) (ho : OpensR P f.type c ok) : ∃ x, c.rep (fun a => W.cell? a) x ((cs.drop f.offset).take sz) ∧ ok x := by
  have h1 := hf i f hi
  have hlt : i < xs.length := by
    rw [hxs]
    exact (Array.getElem?_eq_some_iff.1 hi).1
  rw [hsz, List.getElem?_eq_getElem hlt] at h1
  refine ho H enc W n _ _ h1 (fun m hm => hw m ?_)
  simp only [DataW.weights, ht]
  refine DataW.weights_mem_each (j := i) (t := f.type) (d := xs[i].1) ?_ ?_ m hm
  · rw [List.getElem?_map, Array.getElem?_toList, hi]; rfl
  · rw [List.getElem?_map, List.getElem?_eq_getElem hlt]; rfl

def okRValue (s : TValue) : Prop := (okI .i64) s.Kind ∧ (okI .i64) s.N ∧ okSR s.S
def okRPair (s : TPair) : Prop := okSR s.Key ∧ okRValue s.Val

theorem opensR_TValue : OpensR Tryz.prog 53 cTValue okRValue := by
  intro H enc W fuel cs d h hw
  obtain ⟨xs, n, _, rfl, hl, hxs, hf⟩ := DataW.trod_struct Tryz.underlying53 h
  rw [show Tryz.prog.cellsOf 53 = 3 by kernel_rfl] at hl
  obtain ⟨c0, c1, c2, rfl⟩ : ∃ c0 c1 c2, cs = [c0, c1, c2] := by
    exact cells_3 hl
  obtain ⟨x0, r0, o0⟩ := fieldR (sz := 1) Tryz.underlying53 hf hxs hw 0 rfl (by kernel_rfl) (opens_int Tryz.underlying3).toR
  have e0 : [c0] = [.int .i64 (x0)] := r0
  simp only [List.cons.injEq, and_true] at e0
  obtain rfl := e0
  obtain ⟨x1, r1, o1⟩ := fieldR (sz := 1) Tryz.underlying53 hf hxs hw 1 rfl (by kernel_rfl) (opens_int Tryz.underlying2).toR
  have e1 : [c1] = [.int .i64 (x1)] := r1
  simp only [List.cons.injEq, and_true] at e1
  obtain rfl := e1
  obtain ⟨x2, r2, o2⟩ := fieldR (sz := 1) Tryz.underlying53 hf hxs hw 2 rfl (by kernel_rfl) (opensR_str Tryz.underlying9)
  have e2 : [c2] = [.string ⟨⟨x2⟩⟩] := r2
  simp only [List.cons.injEq, and_true] at e2
  obtain rfl := e2
  exact ⟨⟨x0, x1, x2⟩, rfl, ⟨o0, o1, o2⟩⟩

theorem opensR_TPair : OpensR Tryz.prog 55 cTPair okRPair := by
  intro H enc W fuel cs d h hw
  obtain ⟨xs, n, _, rfl, hl, hxs, hf⟩ := DataW.trod_struct Tryz.underlying55 h
  rw [show Tryz.prog.cellsOf 55 = 4 by kernel_rfl] at hl
  obtain ⟨c0, c1, c2, c3, rfl⟩ : ∃ c0 c1 c2 c3, cs = [c0, c1, c2, c3] := by
    exact cells_4 hl
  obtain ⟨x0, r0, o0⟩ := fieldR (sz := 1) Tryz.underlying55 hf hxs hw 0 rfl (by kernel_rfl) (opensR_str Tryz.underlying9)
  have e0 : [c0] = [.string ⟨⟨x0⟩⟩] := r0
  simp only [List.cons.injEq, and_true] at e0
  obtain rfl := e0
  obtain ⟨x1, r1, o1⟩ := fieldR (sz := 3) Tryz.underlying55 hf hxs hw 1 rfl (by kernel_rfl) opensR_TValue
  have e1 : [c1, c2, c3] = [.int .i64 (x1.Kind), .int .i64 (x1.N), .string ⟨⟨x1.S⟩⟩] := r1
  simp only [List.cons.injEq, and_true] at e1
  obtain ⟨rfl, rfl, rfl⟩ := e1
  exact ⟨⟨x0, x1⟩, rfl, ⟨o0, o1⟩⟩

theorem openVR_slice {α : Type} [Inhabited α] {H : Type} {enc : TypeId × Value → H} {P : Program} {W : World} {base t e : Nat} {c : Cd α} {ok : α → Prop} (ht : P.underlying t = some (.slice e)) (hsz : P.cellsOf e = c.sz) (he : OpensR P e c ok)
    {v : Value} {d : DataW H} {p : List MemPlace} (hval : Value.okWide P W .any base t v) (h : DataW.Trod enc P W 0 (fun _ => true) true t v d p) (hw : ∀ n ∈ d.weights P t, n ≤ reachBytes) :
    ∃ a k l, v = .slice a (List.length l) k ∧ SlAt c (fun a => W.cell? a) a k l ∧ okL ok l := by
  obtain ⟨a, n, k, rfl⟩ := okWide_slice ht hval
  obtain ⟨fuel, hf⟩ := h
  obtain ⟨l, ⟨a', k', h1, h2⟩, h3⟩ := opensR_slice ht hsz he H enc W fuel _ _ hf hw
  simp [Value.cells] at h1
  obtain ⟨rfl, rfl, rfl⟩ := h1
  exact ⟨a, k, l, rfl, h2, h3⟩

/-! ### The law -/

def rootN (l : List TPair) : Nat := rtN (bks l)

theorem hist_impl {x : List (List TPair)} (hl : x.length ≤ 20) (h60 : ∀ l ∈ x, l.length ≤ 60) (hf : ∀ l ∈ x, ∀ p ∈ l, Fits p) : F_verify_History x = some (ints (x.map rootN)) := by
  unfold F_verify_History
  rw [jn_mk]
  have key := loopSeq (len := x.length) (by omega) (L := F_verify_History_L1 x fun x5 => some x5) (J := fun x5 => some x5) (S := fun i => ints ((x.take i).map rootN)) (fun n i hi => ?_) (fun n => ?_) ((((x).length : Nat) : Int).toNat + 1) 0 (by omega) (by omega)
  · rw [List.take_length] at key
    exact key
  · have hm := List.getElem_mem hi
    rw [F_verify_History_L1, decide_eq_true (by omega), cond_true, req_pos (by omega), atI_nat hi, dg_Tree (by have := h60 _ hm; omega) (hf _ hm), bnd_mk, treeB, dg_Root (Nat.le_of_eq (bks_len _)) bks_lt, bnd_mk, req_pos (by rw [List.length_append, ints_len, List.length_map, List.length_take]; simp only [List.length_cons, List.length_nil]; omega), List.take_succ_eq_append_getElem hi, List.map_append, ints_app]
    rfl
  · rw [F_verify_History_L1, decide_eq_false (by omega), cond_false]

theorem hist_ref {x : List (List TPair)} (hl : x.length ≤ 20) (h60 : ∀ l ∈ x, l.length ≤ 60) (hf : ∀ l ∈ x, ∀ p ∈ l, Fits p) : F_clockworkref54_History x = some (ints (x.map rootN)) := by
  unfold F_clockworkref54_History
  rw [jn_mk]
  have key := loopSeq (len := x.length) (by omega) (L := F_clockworkref54_History_L1 x fun x5 => some x5) (J := fun x5 => some x5) (S := fun i => ints ((x.take i).map rootN)) (fun n i hi => ?_) (fun n => ?_) ((((x).length : Nat) : Int).toNat + 1) 0 (by omega) (by omega)
  · rw [List.take_length] at key
    exact key
  · have hm := List.getElem_mem hi
    rw [F_clockworkref54_History_L1, decide_eq_true (by omega), cond_true, req_pos (by omega), atI_nat hi, r53_Tree (by have := h60 _ hm; omega) (hf _ hm), bnd_mk, req_pos (by rw [List.length_append, ints_len, List.length_map, List.length_take]; simp only [List.length_cons, List.length_nil]; omega), List.take_succ_eq_append_getElem hi, List.map_append, ints_app]
    rfl
  · rw [F_clockworkref54_History_L1, decide_eq_false (by omega), cond_false]

theorem plain_VerifyHistories (x0 : List (List TPair)) (o0 : (okL (okL okRPair)) x0) : F_clockworklaw54_VerifyHistories x0 = some true := by
  unfold F_clockworklaw54_VerifyHistories
  rw [works_t]
  have hf : ∀ l ∈ x0, ∀ p ∈ l, Fits p := fun l hl p hp => by
    obtain ⟨h1, _, h2, h3⟩ := (o0.2 l hl).2 p hp
    exact ⟨h1, h2, h3⟩
  by_cases h : x0.length ≤ 20
  · rw [decide_eq_false (by omega), cond_false, jn_mk]
    have loop : ∀ (J : Option Bool) (n : Nat), x0.length < n → F_clockworklaw54_VerifyHistories_L1 x0 J n 0 = cond (x0.any fun l => decide (60 < l.length)) (some true) J := fun J n hn => by
      refine loopAny0 (l := x0) (by omega) (L := fun n i => F_clockworklaw54_VerifyHistories_L1 x0 J n i) (q := fun l => decide (60 < l.length)) (E := some true) (J := J) hn (fun n i hi => ?_) (fun n => ?_)
      · try dsimp only
        rw [F_clockworklaw54_VerifyHistories_L1, works_t, decide_eq_true (by omega), cond_true, req_pos (by omega), atI_nat hi, bnd_mk]
        by_cases e : 60 < x0[i].length
        · rw [decide_eq_true e, decide_eq_true (by omega), cond_true]
        · rw [decide_eq_false e, decide_eq_false (by omega), cond_false]
      · try dsimp only
        rw [F_clockworklaw54_VerifyHistories_L1, decide_eq_false (by omega), cond_false]
    refine (loop _ _ (by omega)).trans ?_
    cases hq : (x0.any fun l => decide (60 < l.length)) with
    | true => rfl
    | false =>
      rw [cond_false]
      have h60 : ∀ l ∈ x0, l.length ≤ 60 := fun l hl => by
        have := List.any_eq_false.1 hq l hl
        simpa using this
      have hml : (ints (x0.map rootN)).length = x0.length := by rw [ints_len, List.length_map]
      rw [hist_impl h h60 hf, bnd_mk, hist_ref h h60 hf, bnd_mk, law_numbers (by omega) (by omega), bnd_mk, eqL_refl (fun a => by simp)]
      rfl
  · rw [decide_eq_true (by omega), cond_true]
    rfl

end Go.Proofs.YtonijgmopcmldaaGreat
