/-
 A FRAMEWORK FOR PROOFS ABOUT CALLS (part h): a range over a function, walked by the caller: rounds that turn memory of the call's own; iterators that read only memory that nobody writes.
 Conditions: none.
-/
import Derived.Test.YtglnnhmmipopiaaGreatMg
import Derived.RangeFuncLeaves
set_option linter.all false
namespace Go.Proofs.YtglnnhmmipopiaaGreat
open Go.RowKit Go.Proofs
def cellsO : Obj → Bool
 | .cells .. => true
 | _ => false
abbrev FW (ro : Option Nat) : Fence := { Fence.wide with round := ro }
def addD (ds : List Deferred) (a : Act) : Act := ⟨a.tmps, a.defers ++ ds⟩
theorem addD_put (ds : List Deferred) (a : Act) (d : Option Nat) (v : Value) : addD ds (a.put d v) = (addD ds a).put d v := by
 cases d <;> rfl
theorem oper_inF {P : Program} {o : Oper} {ro : Option Nat} {ds : List Deferred} {n : Nat} {a : Act} {w : World} {next next' : Act → World → Prop} {Q Q' : Exit → Act → World → Prop} (hd : ∀ c, o.op ≠ .defer c) (h : o.wp P a w next Q)
  (hn : ∀ a w, next a w → next' (addD ds a) w) (hQ : ∀ e a w, Q e a w → e = .normal) : o.wpIn (FW ro) n P (addD ds a) w next' Q' := by
 refine ⟨fun _ _ => trivial, ?_⟩
 have hs : (o.semAt (FW ro).round (addD ds a).eval) = execOp a.eval o := Oper.semAt_eq _ _ _ hd
 rw [hs]
 unfold Oper.wp at h
 revert h
 generalize (execOp a.eval o).run P w = r
 intro h
 match r, h with
 | .ok (.value v) w', h => have := hn _ _ h; rw [addD_put] at this; exact this
 | .ok .skip w', h => have := hn _ _ h; rw [addD_put] at this; exact this
 | .ok (.defer d) w', h => have := hn _ _ h; rw [addD_put] at this; exact this
 | .ok (.enter f args) w', h =>
  refine ⟨fun hh => by simp [Fence.wide] at hh, ?_⟩
  refine callsIn_wide.2 (Calls.mono h fun e w'' hr => ?_)
  match e, hr with
  | .returned v, hr => have := hn _ _ hr; rw [addD_put] at this; exact this
  | .panicked c, hr => exact absurd (hQ _ _ _ hr) (by simp)
  | .outgrown, hr => obtain ⟨a0, w0, hr⟩ := hr; exact absurd (hQ _ _ _ hr) (by simp)
 | .ok (.row row args) w', h => exact ⟨fun hh => by simp [Fence.wide] at hh, (rows_in h).mono fun v w'' hr => by have := hn _ _ hr; rw [addD_put] at this; exact this⟩
 | .halt (.panic v) w', h => exact absurd (hQ _ _ _ h) (by simp)
def noDefB : List Oper → Bool
 | [] => true
 | o :: l => match o.op with
  | .defer _ => false
  | _ => noDefB l
theorem noDefB_sound : ∀ {l : List Oper}, noDefB l = true → ∀ o ∈ l, ∀ c, o.op ≠ .defer c
 | [], _, o, ho, _ => by simp at ho
 | x :: l, h, o, ho, c => by
  unfold noDefB at h
  split at h
  ·simp at h
  ·rename_i hx
   rcases List.mem_cons.1 ho with rfl | ho
   ·exact fun e => hx c e
   ·exact noDefB_sound h o ho c
theorem wpListIn_preF {P : Program} {ops : Array Oper} {ro : Option Nat} {ds : List Deferred} {n : Nat} {Q Q' : Exit → Act → World → Prop} {rest : List Oper} (hQ : ∀ e a w, Q e a w → e = .normal) (hn : ∀ a w, Q .normal a w → wpListIn (FW ro) n P ops Q' rest (addD ds a) w) :
  ∀ (pre : List Oper) (a : Act) (w : World), (∀ o ∈ pre, ∀ c, o.op ≠ .defer c) → wpList P ops Q pre a w → wpListIn (FW ro) n P ops Q' (pre ++ rest) (addD ds a) w
 | [], a, w, _, h => hn a w h
 | o :: pre, a, w, hd, h => by
  have hd' : ∀ x ∈ pre, ∀ c, x.op ≠ .defer c := fun x hx => hd x (List.mem_cons_of_mem _ hx)
  simp only [List.cons_append, wpListIn]
  simp only [wpList] at h
  have ht : (addD ds a).tmps = a.tmps := rfl
  rw [ht]
  split at h
  ·rename_i hw
   rw [if_pos hw]
   rcases h with h | ⟨_, a0, w0, h⟩
   ·exact oper_inF (hd o (by simp)) h (fun a w h => wpListIn_preF hQ hn pre a w hd' h) hQ
   ·exact absurd (hQ _ _ _ h) (by simp)
  ·rename_i hw
   rw [if_neg hw]
   refine ⟨fun _ _ => trivial, ?_⟩
   have := wpListIn_preF hQ hn pre _ w hd' h
   rw [addD_put] at this
   exact this
structure RSt (nt : Nat) (V0 : View) (FR : Frm) (ds : List Deferred) (L : Fr) (V : View) (M : List OB) (a : Act) (w : World) : Prop where
 df : a.defers = ds
 sz : a.tmps.size = nt
 st : ∃ env, WOk V0 FR env V M w ∧ LOk env M L a.tmps
theorem post_noM {P : Program} {T : List TyD} {fn : Func} {nt : Nat} {V0 : View} {FR : Frm} {I : Fr → View → List OB → Prop} {e : Exit} {a : Act} {w : World}
  (h : post (noEnd P T fn nt V0) FR .none [.inLoop I] e a w) : e = .normal ∧ ∃ L V M, RSt nt V0 FR [] L V M a w ∧ I L V M := by
 have hb : ∀ (e : Exit), post (noEnd P T fn nt V0) FR .none [] e a w → False := fun e h => by
  have h : bodyPost P fn (endP (noEnd P T fn nt V0) FR) e a w := h
  cases e with
  | normal => obtain ⟨_, v, _, h⟩ := h; exact endP_no h
  | ret => obtain ⟨_, v, _, h⟩ := h; exact endP_no h
  | panic c => exact endP_no h.2
  | outgrown => exact endP_no h
  | exit id => exact h
  | goto t => exact h
 cases e with
 | normal =>
  have h : a.defers = [] ∧ a.tmps.size = nt ∧ ∃ env L V' M, WOk V0 FR env V' M w ∧ LOk env M L a.tmps ∧ I L V' M := h
  obtain ⟨h1, h2, env, L, V', M, h3, h4, h5⟩ := h
  exact ⟨rfl, L, V', M, ⟨h1, h2, env, h3, h4⟩, h5⟩
 | ret => exact (hb .ret h).elim
 | panic c => exact (hb (.panic c) h).elim
 | outgrown => exact (hb .outgrown h).elim
 | exit id => exact (hb (.exit id) h).elim
 | goto t => exact (hb (.goto t) h).elim
section
variable {P : Program} {T : List TyD} {fn : Func} {nt : Nat} {V0 : View} {FR : Frm} {ds : List Deferred} {L : Fr} {V : View} {M : List OB} {a : Act} {w : World} {Q : Exit → Act → World → Prop}
theorem RSt.region (h : RSt nt V0 FR ds L V M a w) (I : Fr → View → List OB → Prop) {all : List Oper} {id n : Nat} {ro : Option Nat} (hE : Exec (noEnd P T fn nt V0) ⟨[.ops all all [], .inLoop I], L, M⟩ V) (hd : noDefB all = true)
  (hQ : ∀ L' V' M' a' w', I L' V' M' → RSt nt V0 FR ds L' V' M' a' w' → Q .normal a' w') : (Code.region id ⟨all⟩ false).wpIn (FW ro) n P Q a w := by
 obtain ⟨t, d⟩ := a
 obtain ⟨env, h3, h4⟩ := h.st
 have hdf : d = ds := h.df
 subst hdf
 have := hE.to FR .none env t w h.sz h3 h4 (ROk.nil env _ t) trivial
 have h2 : wpList P ⟨all⟩ (post (noEnd P T fn nt V0) FR .none [.inLoop I]) all ⟨t, []⟩ w := this
 refine wpIn_region_list ?_
 show wpListIn (FW ro) n P ⟨all⟩ Q all ⟨t, d⟩ w
 have := wpListIn_preF (ro := ro) (ds := d) (n := n) (rest := []) (Q' := Q) (fun e a w h => (post_noM h).1) (fun a w' hp => by
  obtain ⟨L', V', M', k1, k2⟩ := (post_noM hp).2
  refine wpListIn_nil (hQ L' V' M' _ w' k2 ⟨?_, k1.sz, k1.st⟩)
  simp [addD, k1.df]) all ⟨t, []⟩ w (noDefB_sound hd) h2
 rw [List.append_nil] at this
 exact this
theorem RSt.eval (h : RSt nt V0 FR ds L V M a w) {s : Nat} {x : Value} (hs : lookL L s = some (.v x)) : a.eval (.tmp s) = x := by
 obtain ⟨env, _, h4⟩ := h.st
 have h1 := (h4 s (.v x) hs).1
 have h1 : a.tmps[s]? = some x := h1
 simp [Act.eval, Array.getD_eq_getD_getElem?, h1]
end
section
variable {V0 V V' : View} {FR FR' : Frm} {env : List Nat} {M : List OB} {w w' : World}
theorem WOk.grow (h : WOk V0 FR env V M w) (hb : Below w.heap.size w w') (hv : VLe V V') (hh : Holds V' w') (hn : ∀ a x, V' a = some x → V a = some x ∨ w.heap.size ≤ a.block) : WOk V0 FR env V' M w' where
 os := hb.os.trans h.os
 tape := hb.tape.trans h.tape
 output := hb.output.trans h.output
 frame b o ho := by
  have h1 := h.frame b o ho
  rw [hb.block b (Array.getElem?_eq_some_iff.1 h1).1]; exact h1
 le := h.le.trans hv
 holds := hh
 fresh a x hx := by
  rcases hn a x hx with h1 | h1
  ·exact h.fresh a x h1
  ·right
   cases hf : FR.blk a.block with
   | none => rfl
   | some o =>
    have := (Array.getElem?_eq_some_iff.1 (h.frame _ o hf)).1
    omega
 len := h.len
 sat i o ho := OB.sat_of rfl (fun _ _ => rfl) (fun _ hx => hx) (h.sat i o ho) fun k hk => hb.block k (OB.own_lt (h.sat i o ho) hk)
 apartV i o a ho ha := by
  cases hx : V' a with
  | none => rfl
  | some x =>
   rcases hn a x hx with h1 | h1
   ·have := h.apartV i o a ho ha; rw [this] at h1; cases h1
   ·have := OB.own_lt (h.sat i o ho) ha; omega
 apartF := h.apartF
 apart := h.apart
theorem not_cells {l : Nat} {o : Obj} (hl : w.heap[l]? = some o) (hc : cellsO o = false) : ∀ (a : Addr) (x : Value), w.cell? a = some x → a.block ≠ l := by
 rintro a x hx rfl
 simp only [World.cell?, hl] at hx
 cases o <;> simp_all [cellsO]
theorem OB.own_ne {l b : Nat} {o : Obj} (hl : w.heap[l]? = some o) (hc : cellsO o = false) : ∀ {ob : OB} {a : Addr}, ob.sat env M w b → ob.own b a → a.block ≠ l
 | .gone, a, _, h => h.elim
 | .blk cs ty, a, h, ha => by
  have : a.block = b := ha
  rintro rfl
  rw [this] at hl
  rw [h.1] at hl
  cases hl
  simp [cellsO] at hc
 | .row x cs e sz, a, h, ha => by
  rintro rfl
  obtain ⟨n, _, h2⟩ := h
  rcases h2 with ⟨h2, _⟩ | ⟨g, cap, cur, rfl, _, k2, _⟩
  ·subst h2; simp [OB.own, Value.ownBlock] at ha
  ·simp only [OB.own, Value.ownBlock, Option.some.injEq] at ha
   rw [← ha, k2] at hl
   cases hl
   simp [cellsO] at hc
theorem WOk.turn (h : WOk V0 FR env V M w) {l : Nat} {o o' : Obj} (hl : w.heap[l]? = some o) (hc : cellsO o = false) (e1 : FR'.os = FR.os) (e2 : FR'.tape = FR.tape) (e3 : FR'.output = FR.output)
  (hb : ∀ b x, FR'.blk b = some x → if b = l then x = o' else FR.blk b = some x) (hs : ∀ b, FR.blk b = none → FR'.blk b = none) : WOk V0 FR' env V M (w.putObj l o') where
 os := by rw [e1]; exact h.os
 tape := by rw [e2]; exact h.tape
 output := by rw [e3]; exact h.output
 frame b x hx := by
  have := hb b x hx
  split at this
  ·rename_i e
   subst e; subst this
   exact World.putObj_heap_same (Array.getElem?_eq_some_iff.1 hl).1
  ·rename_i e
   rw [World.putObj_heap_other e]; exact h.frame b x this
 le := h.le
 holds a x hx := by
  have h1 := h.holds a x hx
  have hne := not_cells hl hc a x h1
  simp only [World.cell?] at h1 ⊢
  rw [World.putObj_heap_other hne]; exact h1
 fresh a x hx := by
  rcases h.fresh a x hx with h1 | h1
  ·exact .inl h1
  ·exact .inr (hs _ h1)
 len := h.len
 sat i ob ho := OB.sat_of rfl (fun _ _ => rfl) (fun _ hx => hx) (h.sat i ob ho) fun k hk => World.putObj_heap_other (OB.own_ne hl hc (h.sat i ob ho) hk)
 apartV := h.apartV
 apartF i ob a ho ha := hs _ (h.apartF i ob a ho ha)
 apart := h.apart
theorem WOk.strong (h : WOk V0 FR env V M w) (e1 : FR'.os = FR.os) (e2 : FR'.tape = FR.tape) (e3 : FR'.output = FR.output)
  (hb : ∀ b x, FR'.blk b = some x → FR.blk b = some x ∨ (w.heap[b]? = some x ∧ cellsO x = false)) : WOk V0 FR' env V M w where
 os := by rw [e1]; exact h.os
 tape := by rw [e2]; exact h.tape
 output := by rw [e3]; exact h.output
 frame b x hx := by
  rcases hb b x hx with h1 | h1
  ·exact h.frame b x h1
  ·exact h1.1
 le := h.le
 holds := h.holds
 fresh a x hx := by
  rcases h.fresh a x hx with h1 | h1
  ·exact .inl h1
  ·right
   cases hf : FR'.blk a.block with
   | none => rfl
   | some o =>
    rcases hb _ o hf with h2 | h2
    ·rw [h1] at h2; cases h2
    ·exact absurd rfl (not_cells h2.1 h2.2 a x (h.holds a x hx))
 len := h.len
 sat := h.sat
 apartV := h.apartV
 apartF i ob a ho ha := by
  have h1 := h.apartF i ob a ho ha
  cases hf : FR'.blk a.block with
  | none => rfl
  | some o =>
   rcases hb _ o hf with h2 | h2
   ·rw [h1] at h2; cases h2
   ·exact absurd rfl (OB.own_ne h2.1 h2.2 (h.sat i ob ho) ha)
 apart := h.apart
end

/-! ### Iterators -/
structure JOk (J : List Int → View → World → Prop) : Prop where
 holds : ∀ s V W, J s V W → Holds V W
 grow : ∀ s V W V' W', J s V W → Below W.heap.size W W' → VLe V V' → Holds V' W' → (∀ a x, V' a = some x → V a = some x ∨ W.heap.size ≤ a.block) → J s V' W'
structure ItSv (J : List Int → View → World → Prop) (nt : Nat) (L : Fr) (V : View) (pre : List Int) (a : Act) (w : World) : Prop where
 df : a.defers = []
 sz : a.tmps.size = nt
 lk : LOk [] [] L a.tmps
 j : J pre V w
section
variable {P : Program} {T : List TyD} {fn : Func} {V : View} {J : List Int → View → World → Prop} {nt n : Nat} {L : Fr} {pre : List Int} {a : Act} {w : World} {I : Fr → View → Prop} {Q : Exit → Act → World → Prop}
end

/-! ### The caller's side -/
def Frm.add (FR : Frm) (b : Nat) (o : Obj) : Frm := { FR with blk := fun k => if k = b then some o else FR.blk k }
theorem Frm.add_blk (FR : Frm) (b : Nat) (o : Obj) (k : Nat) : (FR.add b o).blk k = if k = b then some o else FR.blk k := rfl
section
variable {P : Program} {nt : Nat} {V0 V : View} {FR : Frm} {L : Fr} {M : List OB} {a : Act} {w : World} {Q : Exit → Act → World → Prop}
theorem RSt.leaves0 {T : List TyD} (hT : TOk P T) {V' : View} {n : Nat} {fn : Func} {rs : List ResultVar} {vs : List Value} {R : Ending → World → Prop} (h : RSt nt V0 FR [] L V' M a w)
  (hres : fn.results = ⟨rs⟩) (hv : resV T L M rs = some vs) (hR : ∀ env, WOk V0 FR env V' M w → R (.returned (retV vs)) w) : LeavesInM Fence.wide n P fn a.tmps R a.defers .returning w := by
 obtain ⟨env, hW, hLk⟩ := h.st
 rw [h.df]
 exact ⟨_, (Exec.retAt (C := ⟨P, T, fn, nt, V0, fun _ _ _ => True⟩) hT hres hv trivial hW hLk).1, hR env hW⟩
end
theorem Spec.enterF {P : Program} {f nt : Nat} {fn : Func} {c : Code} {args : List Value} {V : View} {R : View → Value → Prop} {L : Fr}
  (hf : P.funcs[f]? = some fn) (hb : fn.body = some c) (hname : (fn.name == "runtime.NumGoroutine") = false) (hnt : fn.ntmps = nt) (hlen : Nat.ble args.length nt = true) (hL : argFr 0 args = L)
  (h : ∀ (w : World) (a : Act), RSt nt V (frAll w) [] L V [] a w → c.wpIn Fence.wide 1 P (bodyPostM Fence.wide 1 P fn fun e w' => ∃ v env V' M', e = .returned v ∧ WOk V (frAll w) env V' M' w' ∧ R V' v) a w) : Spec P f args V R := by
 refine ⟨⟨fn, hf, by rw [hb]; rfl, hname⟩, fun w hw => ?_⟩
 have hle := Nat.le_of_ble_eq_true hlen
 have hc := callsIn_of_wp_marks (F := Fence.wide) (n := 1) (args := ⟨args⟩) (w := w) hf hb trivial (h w { tmps := (⟨args⟩ : Array Value) ++ Array.replicate (fn.ntmps - args.length) undef, defers := [] } ⟨rfl, by simp [hnt]; omega, [], wok_all hw, by rw [← hL]; exact lok_args args _⟩) rfl
 refine (callsIn_wide.1 hc).mono ?_
 rintro e w' ⟨v, env, V', M', rfl, hW, hR⟩
 refine ⟨v, V', rfl, wok_below hW, hW.le, hW.holds, fun b x hx => ?_, hR⟩
 rcases hW.fresh b x hx with k | k
 ·exact .inl k
 ·right
  have k : w.heap[b.block]? = none := k
  simpa using k
end Go.Proofs.YtglnnhmmipopiaaGreat
