/-
 A FRAMEWORK FOR PROOFS ABOUT CALLS (part i): a set of integers (map[int]bool) of the call's own.
 Conditions: the table of types is the program's (TOk).
-/
import Derived.Test.YtglnnhmmipopiaaGreatMh
import Derived.Maps.OwnSet
set_option linter.all false
namespace Go.Proofs.YtglnnhmmipopiaaGreat
open Go.RowKit Go.Maps Go.WideElems
section
variable {P : Program} {T : List TyD} {fn : Func} {nt : Nat} {V0 : View} {FR : Frm} {ds : List Deferred} {L : Fr} {V : View} {M : List OB} {a : Act} {w : World} {Q : Exit → Act → World → Prop}
theorem RSt.ops (h : RSt nt V0 FR ds L V M a w) (I : Fr → View → List OB → Prop) {ops all rest l : List Oper} {n : Nat} {ro : Option Nat} (hl : l = ops ++ rest) (hE : Exec (noEnd P T fn nt V0) ⟨[.ops ops all [], .inLoop I], L, M⟩ V) (hd : noDefB ops = true)
  (hQ : ∀ L' V' M' a' w', I L' V' M' → RSt nt V0 FR ds L' V' M' a' w' → wpListIn (FW ro) n P ⟨all⟩ Q rest a' w') : wpListIn (FW ro) n P ⟨all⟩ Q l a w := by
 subst hl
 obtain ⟨t, d⟩ := a
 obtain ⟨env, h3, h4⟩ := h.st
 have hdf : d = ds := h.df
 subst hdf
 have := hE.to FR .none env t w h.sz h3 h4 (ROk.nil env _ t) trivial
 have h2 : wpList P ⟨all⟩ (post (noEnd P T fn nt V0) FR .none [.inLoop I]) ops ⟨t, []⟩ w := this
 have := wpListIn_preF (ro := ro) (ds := d) (n := n) (rest := rest) (Q' := Q) (fun e a w h => (post_noM h).1) (fun a w' hp => by
  obtain ⟨L', V', M', k1, k2⟩ := (post_noM hp).2
  refine hQ L' V' M' _ w' k2 ⟨?_, k1.sz, k1.st⟩
  simp [addD, k1.df]) ops ⟨t, []⟩ w (noDefB_sound hd) h2
 have e : addD d ⟨t, []⟩ = ⟨t, d⟩ := by simp [addD]
 rwa [e] at this
theorem region_ops {all : List Oper} {id n : Nat} {ro : Option Nat} (h : wpListIn (FW ro) n P ⟨all⟩ Q all a w) : (Code.region id ⟨all⟩ false).wpIn (FW ro) n P Q a w := wpIn_region_list h
theorem op_value {o : Oper} {rest all : List Oper} {n : Nat} {v : Value} {w' : World} (hg : o.guard = none) (hr : (execOp a.eval o).run P w = .ok (.value v) w')
  (hK : wpListIn Fence.wide n P ⟨all⟩ Q rest (a.put o.dst v) w') : wpListIn Fence.wide n P ⟨all⟩ Q (o :: rest) a w := by
 refine wpListIn_plain hg (fun K hK2 => ?_)
 refine ⟨fun _ _ => trivial, ?_⟩
 have hs : (o.semAt Fence.wide.round a.eval) = execOp a.eval o := Oper.semAt_none _ _
 rw [hs, hr, Oper.uponIn_value]
 exact hK2 _ _ hK
theorem op_skip {o : Oper} {rest all : List Oper} {n : Nat} {w' : World} (hg : o.guard = none) (hr : (execOp a.eval o).run P w = .ok .skip w')
  (hK : wpListIn Fence.wide n P ⟨all⟩ Q rest (a.put o.dst undef) w') : wpListIn Fence.wide n P ⟨all⟩ Q (o :: rest) a w := by
 refine wpListIn_plain hg (fun K hK2 => ?_)
 refine ⟨fun _ _ => trivial, ?_⟩
 have hs : (o.semAt Fence.wide.round a.eval) = execOp a.eval o := Oper.semAt_none _ _
 rw [hs, hr, Oper.uponIn_skip]
 exact hK2 _ _ hK

/-! ### The set -/
def setD (ids : List Int) : DataW Unit := ids.foldl (fun D i => D.put (.int .i64 i) (.lit (.bool true))) (.map [])
def SetO (P : Program) (k e : Nat) (ids : List Int) (o : Obj) : Prop :=
 ∃ es clock, o = .map es clock ∧ Fit P k (plainElem (H := Unit) P e) es clock ∧ es.size ≤ ids.length ∧ setD ids = .map ((es.toList.map (rg P k (plainElem (H := Unit) P e))).foldr DataW.insert [])
theorem SetO.owns {k e : Nat} {ids : List Int} {o : Obj} {b : Nat} (h : SetO P k e ids o) (hb : w.heap[b]? = some o) : w.ownsMap P k (plainElem (H := Unit) P e) b ids.length (setD ids) := by
 obtain ⟨es, clock, rfl, h1, h2, h3⟩ := h
 exact ⟨es, clock, hb, h1, h2, h3⟩
theorem SetO.of {k e n : Nat} {ids : List Int} {b : Nat} {D : DataW Unit} (h : w.ownsMap P k (plainElem (H := Unit) P e) b n D) (hn : n ≤ ids.length) (hD : D = setD ids) : ∃ o, w.heap[b]? = some o ∧ SetO P k e ids o ∧ cellsO o = false := by
 obtain ⟨es, clock, h1, h2, h3, h4⟩ := h
 exact ⟨_, h1, ⟨es, clock, rfl, h2, Nat.le_trans h3 hn, hD ▸ h4⟩, rfl⟩
theorem SetO.cells {k e : Nat} {ids : List Int} {o : Obj} (h : SetO P k e ids o) : cellsO o = false := by
 obtain ⟨es, clock, rfl, _⟩ := h; rfl
theorem setD_map (ids : List Int) : IsMap (setD ids) := by
 unfold setD
 have : ∀ (l : List Int) (D : DataW Unit), IsMap D → IsMap (l.foldl (fun D i => D.put (.int .i64 i) (.lit (.bool true))) D) := by
  intro l
  induction l with
  | nil => intro D h; exact h
  | cons x l ih => intro D h; exact ih _ (by obtain ⟨es, rfl⟩ := h; exact ⟨_, rfl⟩)
 exact this ids _ ⟨[], rfl⟩
theorem setD_snoc (ids : List Int) (i : Int) : setD (ids ++ [i]) = (setD ids).put (.int .i64 i) (.lit (.bool true)) := by
 unfold setD; rw [List.foldl_append]; rfl
theorem setD_at (i : Int) (ids : List Int) : (setD ids).atKey (.int .i64 i) (.lit (.bool false)) = .lit (.bool (decide (i ∈ ids))) := by
 suffices h : ∀ l : List Int, (setD l.reverse).atKey (.int .i64 i) (.lit (.bool false)) = .lit (.bool (decide (i ∈ l.reverse))) by
  have := h ids.reverse
  rwa [List.reverse_reverse] at this
 intro l
 induction l with
 | nil => rfl
 | cons x l ih =>
  rw [List.reverse_cons, setD_snoc]
  by_cases e : i = x
  ·subst e
   rw [atKey_put_same (setD_map _) (show WideAt.IsKeyLit (.int .i64 i) from trivial)]
   simp
  ·rw [atKey_put_other (by intro h; cases h; exact e rfl), ih]
   simp [e]
theorem RSt.mkMap (h : RSt nt V0 FR ds L V M a w) {o : Oper} {rest all : List Oper} {n t d k e : Nat} (hg : o.guard = none) (ho : o.op = .makeMap t none) (hd : o.dst = some d) (hdt : d < nt)
  (hQ : ∀ b o1 a' w', FR.blk b = none → SetO P k e [] o1 → RSt nt V0 (FR.add b o1) ds ((d, .v (.map (some b))) :: L) V M a' w' → wpListIn Fence.wide n P ⟨all⟩ Q rest a' w') : wpListIn Fence.wide n P ⟨all⟩ Q (o :: rest) a w := by
 obtain ⟨env, hW, hL⟩ := h.st
 refine op_value hg (w' := w.alloc (.map #[] 0)) (v := .map (some w.heap.size)) (by simp [execOp, ho, run_makeMap]) ?_
 have hFD : FR.blk w.heap.size = none := by
  cases hf : FR.blk w.heap.size with
  | none => rfl
  | some o => have := (Array.getElem?_eq_some_iff.1 (hW.frame _ o hf)).1; omega
 have hb1 : Below w.heap.size w (w.alloc (.map #[] 0)) := (Below.refl _ w).alloc (Nat.le_refl _) _
 have hW2 : WOk V0 (FR.add w.heap.size (.map #[] 0)) env V M (w.alloc (.map #[] 0)) := (hW.grow hb1 (VLe.refl V) (holds_below hW.holds hb1) (fun a x h => .inl h)).strong rfl rfl rfl (fun b x hx => by
  rw [Frm.add_blk] at hx
  split at hx
  ·rename_i e; subst e; cases hx; exact .inr ⟨World.alloc_heap_new w _, rfl⟩
  ·exact .inl hx)
 obtain ⟨o1, ho1, hs, _⟩ := SetO.of (ids := []) (World.ownsMap_made w P k (plainElem (H := Unit) P e)) (Nat.le_refl _) rfl
 have : o1 = .map #[] 0 := by rw [World.alloc_heap_new w] at ho1; exact (Option.some.inj ho1).symm
 subst this
 refine hQ w.heap.size _ _ _ hFD hs ⟨?_, ?_, env, hW2, ?_⟩
 ·simp [Act.put, hd, h.df]
 ·simp [Act.put, hd, h.sz]
 ·have := hL.put (x := .v (.map (some w.heap.size))) (d := d) (by rw [h.sz]; exact hdt) trivial
  simpa [Act.put, hd, den] using this
theorem RSt.putMap {b : Nat} {o0 : Obj} {ids : List Int} {k e : Nat} (h : RSt nt V0 (FR.add b o0) ds L V M a w) (hF : FR.blk b = none) (hs : SetO P k e ids o0) {o : Oper} {rest all : List Oper} {n t m x : Nat} {i : Int} (hg : o.guard = none)
  (ho : o.op = .mapUpdate t (.tmp m) (.tmp x) (.const (.bool true))) (hd : o.dst = none) (ht : P.underlying t = some (.map k e)) (hk : P.underlying k = some (.int .i64)) (he : P.underlying e = some .bool) (hn : ids.length < maxLen) (hi : IntKind.i64.min ≤ i ∧ i ≤ IntKind.i64.max)
  (hm : lookL L m = some (.v (.map (some b)))) (hx : lookL L x = some (.v (.int .i64 i)))
  (hQ : ∀ o1 a' w', SetO P k e (ids ++ [i]) o1 → RSt nt V0 (FR.add b o1) ds L V M a' w' → wpListIn Fence.wide n P ⟨all⟩ Q rest a' w') : wpListIn Fence.wide n P ⟨all⟩ Q (o :: rest) a w := by
 obtain ⟨env, hW, hL⟩ := h.st
 have hb := hW.frame b o0 (by rw [Frm.add_blk, if_pos rfl])
 have hwf : (Lit.int .i64 i).wf = true := by simp only [Lit.wf, Bool.and_eq_true, decide_eq_true_eq]; exact hi
 obtain ⟨w', hrun, r1, r2⟩ := (hs.owns hb).store (int_keyed hk) ht hn (key := .int .i64 i) (val := .bool true) (keyOf_int_mk hk hwf) (plainElem_bool he true)
 have em := h.eval hm
 have ex := h.eval hx
 have ev : a.eval (.const (.bool true)) = .bool true := rfl
 refine op_skip hg (w' := w') (by simp [execOp, ho, em, ex, ev, hrun, Result.andThen]) ?_
 obtain ⟨o1, ho1, hs1, hc1⟩ := SetO.of (ids := ids ++ [i]) r1 (by simp) (setD_snoc ids i).symm
 obtain ⟨es, clock, es', clock', hb2, rfl⟩ := r2
 have e0 : o0 = .map es clock := Option.some.inj (hb.symm.trans hb2)
 have e1 : o1 = .map es' clock' := by
  have hlt := (Array.getElem?_eq_some_iff.1 hb).1
  have : (w.putObj b (.map es' clock')).heap[b]? = some (.map es' clock') := World.putObj_heap_same hlt
  exact Option.some.inj (ho1.symm.trans this)
 subst e1
 have hW2 : WOk V0 (FR.add b (.map es' clock')) env V M (w.putObj b (.map es' clock')) := hW.turn hb hs.cells rfl rfl rfl (fun c y hy => by
   rw [Frm.add_blk] at hy
   by_cases e : c = b
   ·rw [if_pos e] at hy ⊢; exact (Option.some.inj hy).symm
   ·rw [if_neg e] at hy ⊢; rw [Frm.add_blk, if_neg e]; exact hy) (fun c hc => by
   rw [Frm.add_blk] at hc ⊢
   split at hc
   ·cases hc
   ·rename_i e; rw [if_neg e]; exact hc)
 refine hQ _ _ _ hs1 ⟨?_, ?_, env, hW2, ?_⟩
 ·simp [Act.put, hd, h.df]
 ·simp [Act.put, hd, h.sz]
 ·simpa [Act.put, hd] using hL
theorem RSt.getMap {b : Nat} {o0 : Obj} {ids : List Int} {k e : Nat} (h : RSt nt V0 (FR.add b o0) ds L V M a w) (hs : SetO P k e ids o0) {o : Oper} {rest all : List Oper} {n t m x d : Nat} {i : Int} (hg : o.guard = none)
  (ho : o.op = .lookup t (.tmp m) (.tmp x) false) (hd : o.dst = some d) (hdt : d < nt) (ht : P.underlying t = some (.map k e)) (hk : P.underlying k = some (.int .i64)) (he : P.underlying e = some .bool) (hz : ∀ w, (zeroValue e).run P w = .ok (.bool false) w) (hi : IntKind.i64.min ≤ i ∧ i ≤ IntKind.i64.max)
  (hm : lookL L m = some (.v (.map (some b)))) (hx : lookL L x = some (.v (.int .i64 i)))
  (hQ : ∀ a', RSt nt V0 (FR.add b o0) ds ((d, .v (.bool (decide (i ∈ ids)))) :: L) V M a' w → wpListIn Fence.wide n P ⟨all⟩ Q rest a' w) : wpListIn Fence.wide n P ⟨all⟩ Q (o :: rest) a w := by
 obtain ⟨env, hW, hL⟩ := h.st
 have hb := hW.frame b o0 (by rw [Frm.add_blk, if_pos rfl])
 have hwf : (Lit.int .i64 i).wf = true := by simp only [Lit.wf, Bool.and_eq_true, decide_eq_true_eq]; exact hi
 obtain ⟨v, ps, hrun, hv⟩ := (hs.owns hb).lookup (int_keyed hk) ht (hz w) (plainElem_bool he false) (key := .int .i64 i) (keyOf_int_mk hk hwf)
 rw [setD_at] at hv
 have hvb : v = .bool (decide (i ∈ ids)) := by
  unfold plainElem at hv
  rw [he] at hv
  cases v <;> simp at hv
  rw [hv.1]
 subst hvb
 have em := h.eval hm
 have ex := h.eval hx
 refine op_value hg (w' := w) (v := .bool (decide (i ∈ ids))) (by simp [execOp, ho, em, ex, hrun, Result.andThen]) ?_
 refine hQ _ ⟨?_, ?_, env, hW, ?_⟩
 ·simp [Act.put, hd, h.df]
 ·simp [Act.put, hd, h.sz]
 ·have := hL.put (x := .v (.bool (decide (i ∈ ids)))) (d := d) (by rw [h.sz]; exact hdt) trivial
  simpa [Act.put, hd, den] using this
end
end Go.Proofs.YtglnnhmmipopiaaGreat
