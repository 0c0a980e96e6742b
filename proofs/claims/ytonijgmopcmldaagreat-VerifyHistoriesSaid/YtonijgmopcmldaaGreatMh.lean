/-
  A FRAMEWORK FOR PROOFS ABOUT CALLS (part h): a range over a function, walked by the caller: rounds that turn memory of the call's own; iterators that read only memory that nobody writes.
  Conditions: none.
-/
import Derived.Test.YtonijgmopcmldaaGreatMg
import Derived.RangeFuncLeaves
set_option linter.all false
namespace Go.Proofs.YtonijgmopcmldaaGreat
open Go.RowKit Go.Proofs
def cellsO : Obj → Bool
  | .cells .. => true
  | _ => false
abbrev FW (ro : Option Nat) : Fence := { Fence.wide with round := ro }
def addD (ds : List Deferred) (a : Act) : Act := ⟨a.tmps, a.defers ++ ds⟩
theorem addD_put (ds : List Deferred) (a : Act) (d : Option Nat) (v : Value) : addD ds (a.put d v) = (addD ds a).put d v := by
  cases d <;> rfl
theorem oper_inF {P : Program} {o : Oper} {ro : Option Nat} {ds : List Deferred} {n : Nat} {a : Act} {w : World} {next next' : Act → World → Prop} {Q Q' : Exit → Act → World → Prop} (hd : ∀ c, o.op ≠ .defer c) (h : o.wp P a w next Q)
    (hn : ∀ a w, next a w → next' (addD ds a) w) (hQ : ∀ e a w, Q e a w → e = .normal) : o.wpIn (FW ro) n P (addD ds a) w next' Q' := by
  refine ⟨fun _ _ => trivial, ?_⟩
  have hs : (o.semAt (FW ro).round (addD ds a).eval) = execOp a.eval o := Oper.semAt_eq _ _ _ hd
  rw [hs]
  unfold Oper.wp at h
  revert h
  generalize (execOp a.eval o).run P w = r
  intro h
  match r, h with
  | .ok (.value v) w', h => have := hn _ _ h; rw [addD_put] at this; exact this
  | .ok .skip w', h => have := hn _ _ h; rw [addD_put] at this; exact this
  | .ok (.defer d) w', h => have := hn _ _ h; rw [addD_put] at this; exact this
  | .ok (.enter f args) w', h =>
    refine ⟨fun hh => by simp [Fence.wide] at hh, ?_⟩
    refine callsIn_wide.2 (Calls.mono h fun e w'' hr => ?_)
    match e, hr with
    | .returned v, hr => have := hn _ _ hr; rw [addD_put] at this; exact this
    | .panicked c, hr => exact absurd (hQ _ _ _ hr) (by simp)
    | .outgrown, hr => obtain ⟨a0, w0, hr⟩ := hr; exact absurd (hQ _ _ _ hr) (by simp)
  | .ok (.row row args) w', h => exact ⟨fun hh => by simp [Fence.wide] at hh, (rows_in h).mono fun v w'' hr => by have := hn _ _ hr; rw [addD_put] at this; exact this⟩
  | .halt (.panic v) w', h => exact absurd (hQ _ _ _ h) (by simp)
def noDefB : List Oper → Bool
  | [] => true
  | o :: l => match o.op with
    | .defer _ => false
    | _ => noDefB l
theorem noDefB_sound : ∀ {l : List Oper}, noDefB l = true → ∀ o ∈ l, ∀ c, o.op ≠ .defer c
  | [], _, o, ho, _ => by simp at ho
  | x :: l, h, o, ho, c => by
    unfold noDefB at h
    split at h
    · simp at h
    · rename_i hx
      rcases List.mem_cons.1 ho with rfl | ho
      · exact fun e => hx c e
      · exact noDefB_sound h o ho c
theorem wpListIn_preF {P : Program} {ops : Array Oper} {ro : Option Nat} {ds : List Deferred} {n : Nat} {Q Q' : Exit → Act → World → Prop} {rest : List Oper} (hQ : ∀ e a w, Q e a w → e = .normal) (hn : ∀ a w, Q .normal a w → wpListIn (FW ro) n P ops Q' rest (addD ds a) w) :
    ∀ (pre : List Oper) (a : Act) (w : World), (∀ o ∈ pre, ∀ c, o.op ≠ .defer c) → wpList P ops Q pre a w → wpListIn (FW ro) n P ops Q' (pre ++ rest) (addD ds a) w
  | [], a, w, _, h => hn a w h
  | o :: pre, a, w, hd, h => by
    have hd' : ∀ x ∈ pre, ∀ c, x.op ≠ .defer c := fun x hx => hd x (List.mem_cons_of_mem _ hx)
    simp only [List.cons_append, wpListIn]
    simp only [wpList] at h
    have ht : (addD ds a).tmps = a.tmps := rfl
    rw [ht]
    split at h
    · rename_i hw
      rw [if_pos hw]
      rcases h with h | ⟨_, a0, w0, h⟩
      · exact oper_inF (hd o (by simp)) h (fun a w h => wpListIn_preF hQ hn pre a w hd' h) hQ
      · exact absurd (hQ _ _ _ h) (by simp)
    · rename_i hw
      rw [if_neg hw]
      refine ⟨fun _ _ => trivial, ?_⟩
      have := wpListIn_preF hQ hn pre _ w hd' h
      rw [addD_put] at this
      exact this
structure RSt (nt : Nat) (V0 : View) (FR : Frm) (ds : List Deferred) (L : Fr) (V : View) (M : List OB) (a : Act) (w : World) : Prop where
  df : a.defers = ds
  sz : a.tmps.size = nt
  st : ∃ env, WOk V0 FR env V M w ∧ LOk env M L a.tmps
theorem post_noM {P : Program} {T : List TyD} {fn : Func} {nt : Nat} {V0 : View} {FR : Frm} {I : Fr → View → List OB → Prop} {e : Exit} {a : Act} {w : World}
    (h : post (noEnd P T fn nt V0) FR .none [.inLoop I] e a w) : e = .normal ∧ ∃ L V M, RSt nt V0 FR [] L V M a w ∧ I L V M := by
  have hb : ∀ (e : Exit), post (noEnd P T fn nt V0) FR .none [] e a w → False := fun e h => by
    have h : bodyPost P fn (endP (noEnd P T fn nt V0) FR) e a w := h
    cases e with
    | normal => obtain ⟨_, v, _, h⟩ := h; exact endP_no h
    | ret => obtain ⟨_, v, _, h⟩ := h; exact endP_no h
    | panic c => exact endP_no h.2
    | outgrown => exact endP_no h
    | exit id => exact h
    | goto t => exact h
  cases e with
  | normal =>
    have h : a.defers = [] ∧ a.tmps.size = nt ∧ ∃ env L V' M, WOk V0 FR env V' M w ∧ LOk env M L a.tmps ∧ I L V' M := h
    obtain ⟨h1, h2, env, L, V', M, h3, h4, h5⟩ := h
    exact ⟨rfl, L, V', M, ⟨h1, h2, env, h3, h4⟩, h5⟩
  | ret => exact (hb .ret h).elim
  | panic c => exact (hb (.panic c) h).elim
  | outgrown => exact (hb .outgrown h).elim
  | exit id => exact (hb (.exit id) h).elim
  | goto t => exact (hb (.goto t) h).elim
section
variable {P : Program} {T : List TyD} {fn : Func} {nt : Nat} {V0 : View} {FR : Frm} {ds : List Deferred} {L : Fr} {V : View} {M : List OB} {a : Act} {w : World} {Q : Exit → Act → World → Prop}
theorem RSt.region (h : RSt nt V0 FR ds L V M a w) (I : Fr → View → List OB → Prop) {all : List Oper} {id n : Nat} {ro : Option Nat} (hE : Exec (noEnd P T fn nt V0) ⟨[.ops all all [], .inLoop I], L, M⟩ V) (hd : noDefB all = true)
    (hQ : ∀ L' V' M' a' w', I L' V' M' → RSt nt V0 FR ds L' V' M' a' w' → Q .normal a' w') : (Code.region id ⟨all⟩ false).wpIn (FW ro) n P Q a w := by
  obtain ⟨t, d⟩ := a
  obtain ⟨env, h3, h4⟩ := h.st
  have hdf : d = ds := h.df
  subst hdf
  have := hE.to FR .none env t w h.sz h3 h4 (ROk.nil env _ t) trivial
  have h2 : wpList P ⟨all⟩ (post (noEnd P T fn nt V0) FR .none [.inLoop I]) all ⟨t, []⟩ w := this
  refine wpIn_region_list ?_
  show wpListIn (FW ro) n P ⟨all⟩ Q all ⟨t, d⟩ w
  have := wpListIn_preF (ro := ro) (ds := d) (n := n) (rest := []) (Q' := Q) (fun e a w h => (post_noM h).1) (fun a w' hp => by
    obtain ⟨L', V', M', k1, k2⟩ := (post_noM hp).2
    refine wpListIn_nil (hQ L' V' M' _ w' k2 ⟨?_, k1.sz, k1.st⟩)
    simp [addD, k1.df]) all ⟨t, []⟩ w (noDefB_sound hd) h2
  rw [List.append_nil] at this
  exact this
theorem RSt.eval (h : RSt nt V0 FR ds L V M a w) {s : Nat} {x : Value} (hs : lookL L s = some (.v x)) : a.eval (.tmp s) = x := by
  obtain ⟨env, _, h4⟩ := h.st
  have h1 := (h4 s (.v x) hs).1
  have h1 : a.tmps[s]? = some x := h1
  simp [Act.eval, Array.getD_eq_getD_getElem?, h1]
theorem RSt.weaken (h : RSt nt V0 FR ds L V M a w) {L' : Fr} (hs : Sub L' L) : RSt nt V0 FR ds L' V M a w :=
  ⟨h.df, h.sz, by
    obtain ⟨env, h3, h4⟩ := h.st
    exact ⟨env, h3, fun s x hx => h4 s x (Sub.look hs s x hx)⟩⟩
end
theorem RSt.via {P : Program} {T : List TyD} {fn : Func} {nt : Nat} {V0 : View} {FR : Frm} {L : Fr} {V : View} {M : List OB} {a : Act} {w : World} (h : RSt nt V0 FR [] L V M a w) (I : Fr → View → List OB → Prop)
    (hE : Exec (noEnd P T fn nt V0) ⟨[.inLoop I], L, M⟩ V) : ∃ L' V' M', I L' V' M' ∧ RSt nt V0 FR [] L' V' M' a w := by
  obtain ⟨t, d⟩ := a
  have hd : d = [] := h.df
  subst hd
  obtain ⟨env, h3, h4⟩ := h.st
  have := hE.to0 (k := [.inLoop I]) rfl (FR := FR) (env := env) (t := t) h.sz h3 h4 .none
  obtain ⟨_, L', V', M', k1, k2⟩ := post_noM this
  exact ⟨L', V', M', k2, k1⟩

/-! ### Worlds that grow; records that turn -/
section
variable {V0 V V' : View} {FR FR' : Frm} {env : List Nat} {M : List OB} {w w' : World}
theorem WOk.grow (h : WOk V0 FR env V M w) (hb : Below w.heap.size w w') (hv : VLe V V') (hh : Holds V' w') (hn : ∀ a x, V' a = some x → V a = some x ∨ w.heap.size ≤ a.block) : WOk V0 FR env V' M w' where
  os := hb.os.trans h.os
  tape := hb.tape.trans h.tape
  output := hb.output.trans h.output
  frame b o ho := by
    have h1 := h.frame b o ho
    rw [hb.block b (Array.getElem?_eq_some_iff.1 h1).1]; exact h1
  le := h.le.trans hv
  holds := hh
  fresh a x hx := by
    rcases hn a x hx with h1 | h1
    · exact h.fresh a x h1
    · right
      cases hf : FR.blk a.block with
      | none => rfl
      | some o =>
        have := (Array.getElem?_eq_some_iff.1 (h.frame _ o hf)).1
        omega
  len := h.len
  sat i o ho := OB.sat_of rfl (fun _ _ => rfl) (fun _ hx => hx) (h.sat i o ho) fun k hk => hb.block k (OB.own_lt (h.sat i o ho) hk)
  apartV i o a ho ha := by
    cases hx : V' a with
    | none => rfl
    | some x =>
      rcases hn a x hx with h1 | h1
      · have := h.apartV i o a ho ha; rw [this] at h1; cases h1
      · have := OB.own_lt (h.sat i o ho) ha; omega
  apartF := h.apartF
  apart := h.apart
theorem not_cells {l : Nat} {o : Obj} (hl : w.heap[l]? = some o) (hc : cellsO o = false) : ∀ (a : Addr) (x : Value), w.cell? a = some x → a.block ≠ l := by
  rintro a x hx rfl
  simp only [World.cell?, hl] at hx
  cases o <;> simp_all [cellsO]
theorem OB.own_ne {l b : Nat} {o : Obj} (hl : w.heap[l]? = some o) (hc : cellsO o = false) : ∀ {ob : OB} {a : Addr}, ob.sat env M w b → ob.own b a → a.block ≠ l
  | .gone, a, _, h => h.elim
  | .blk cs ty, a, h, ha => by
    have : a.block = b := ha
    rintro rfl
    rw [this] at hl
    rw [h.1] at hl
    cases hl
    simp [cellsO] at hc
  | .row x cs e sz, a, h, ha => by
    rintro rfl
    obtain ⟨n, _, h2⟩ := h
    rcases h2 with ⟨h2, _⟩ | ⟨g, cap, cur, rfl, _, k2, _⟩
    · subst h2; simp [OB.own, Value.ownBlock] at ha
    · simp only [OB.own, Value.ownBlock, Option.some.injEq] at ha
      rw [← ha, k2] at hl
      cases hl
      simp [cellsO] at hc
theorem WOk.turn (h : WOk V0 FR env V M w) {l : Nat} {o o' : Obj} (hl : w.heap[l]? = some o) (hc : cellsO o = false) (e1 : FR'.os = FR.os) (e2 : FR'.tape = FR.tape) (e3 : FR'.output = FR.output)
    (hb : ∀ b x, FR'.blk b = some x → if b = l then x = o' else FR.blk b = some x) (hs : ∀ b, FR.blk b = none → FR'.blk b = none) : WOk V0 FR' env V M (w.putObj l o') where
  os := by rw [e1]; exact h.os
  tape := by rw [e2]; exact h.tape
  output := by rw [e3]; exact h.output
  frame b x hx := by
    have := hb b x hx
    split at this
    · rename_i e
      subst e; subst this
      exact World.putObj_heap_same (Array.getElem?_eq_some_iff.1 hl).1
    · rename_i e
      rw [World.putObj_heap_other e]; exact h.frame b x this
  le := h.le
  holds a x hx := by
    have h1 := h.holds a x hx
    have hne := not_cells hl hc a x h1
    simp only [World.cell?] at h1 ⊢
    rw [World.putObj_heap_other hne]; exact h1
  fresh a x hx := by
    rcases h.fresh a x hx with h1 | h1
    · exact .inl h1
    · exact .inr (hs _ h1)
  len := h.len
  sat i ob ho := OB.sat_of rfl (fun _ _ => rfl) (fun _ hx => hx) (h.sat i ob ho) fun k hk => World.putObj_heap_other (OB.own_ne hl hc (h.sat i ob ho) hk)
  apartV := h.apartV
  apartF i ob a ho ha := hs _ (h.apartF i ob a ho ha)
  apart := h.apart
theorem WOk.strong (h : WOk V0 FR env V M w) (e1 : FR'.os = FR.os) (e2 : FR'.tape = FR.tape) (e3 : FR'.output = FR.output)
    (hb : ∀ b x, FR'.blk b = some x → FR.blk b = some x ∨ (w.heap[b]? = some x ∧ cellsO x = false)) : WOk V0 FR' env V M w where
  os := by rw [e1]; exact h.os
  tape := by rw [e2]; exact h.tape
  output := by rw [e3]; exact h.output
  frame b x hx := by
    rcases hb b x hx with h1 | h1
    · exact h.frame b x h1
    · exact h1.1
  le := h.le
  holds := h.holds
  fresh a x hx := by
    rcases h.fresh a x hx with h1 | h1
    · exact .inl h1
    · right
      cases hf : FR'.blk a.block with
      | none => rfl
      | some o =>
        rcases hb _ o hf with h2 | h2
        · rw [h1] at h2; cases h2
        · exact absurd rfl (not_cells h2.1 h2.2 a x (h.holds a x hx))
  len := h.len
  sat := h.sat
  apartV := h.apartV
  apartF i ob a ho ha := by
    have h1 := h.apartF i ob a ho ha
    cases hf : FR'.blk a.block with
    | none => rfl
    | some o =>
      rcases hb _ o hf with h2 | h2
      · rw [h1] at h2; cases h2
      · exact absurd rfl (OB.own_ne h2.1 h2.2 (h.sat i ob ho) ha)
  apart := h.apart
end

/-! ### Iterators -/
structure JOk (J : List Int → View → World → Prop) : Prop where
  holds : ∀ s V W, J s V W → Holds V W
  grow : ∀ s V W V' W', J s V W → Below W.heap.size W W' → VLe V V' → Holds V' W' → (∀ a x, V' a = some x → V a = some x ∨ W.heap.size ≤ a.block) → J s V' W'
def SeqV (P : Program) (g : Nat) (lb : Array Value) (xs : List Int) (V0 : View) : Prop :=
  ∀ (l : Nat) (J : List Int → View → World → Prop) (V : View) (W : World), VLe V0 V → JOk J →
    (∀ pre x rest V1 W1, xs = pre ++ x :: rest → J pre V1 W1 → YieldAt Fence.wide 0 P l #[encZ x] W1 fun e W' => e = .returned (.bool true) ∧ ∃ V2, VLe V1 V2 ∧ J (pre ++ [x]) V2 W') →
    J [] V W → Calls P g (#[.func (.yield l) #[] #[]] ++ lb) W fun e W' => (∃ v, e = .returned v) ∧ ∃ V', J xs V' W'
def SeqVAt (P : Program) (V : View) (v : Value) (xs : List Int) : Prop :=
  ∃ g lb, v = .func (.func g) #[] lb ∧ (∀ args w, (callFunc g args).run P w = .ok (.enter g args) w) ∧ SeqV P g lb xs V
theorem SeqVAt.mono {P : Program} {V V' : View} {v : Value} {xs : List Int} (h : SeqVAt P V v xs) (hv : VLe V V') : SeqVAt P V' v xs := by
  obtain ⟨g, lb, h1, h2, h3⟩ := h
  exact ⟨g, lb, h1, h2, fun l J V1 W h4 => h3 l J V1 W (hv.trans h4)⟩
def BehindV (nt : Nat) (V : View) (w : World) (I : Fr → View → Prop) (a : Act) (w' : World) : Prop :=
  a.defers = [] ∧ a.tmps.size = nt ∧ ∃ L' V', LOk [] [] L' a.tmps ∧ VLe V V' ∧ Holds V' w' ∧ Below w.heap.size w w' ∧ (∀ a x, V' a = some x → V a = some x ∨ w.heap.size ≤ a.block) ∧ I L' V'
theorem post_noV {P : Program} {T : List TyD} {fn : Func} {nt : Nat} {V : View} {I : Fr → View → Prop} {e : Exit} {a : Act} {w w' : World}
    (h : post (noEnd P T fn nt V) (frAll w) .none [endI I] e a w') : e = .normal ∧ BehindV nt V w I a w' := by
  obtain ⟨h1, L, V', M, ⟨h2, h3, env, h4, h5⟩, rfl, h6⟩ := post_noM h
  have he : env = [] := List.eq_nil_of_length_eq_zero (by simpa using h4.len)
  subst he
  refine ⟨h1, h2, h3, L, V', h5, h4.le, h4.holds, wok_below h4, fun b x hx => ?_, h6⟩
  rcases h4.fresh b x hx with k | k
  · exact .inl k
  · right
    have k : w.heap[b.block]? = none := k
    simpa using k
structure ItSv (J : List Int → View → World → Prop) (nt : Nat) (L : Fr) (V : View) (pre : List Int) (a : Act) (w : World) : Prop where
  df : a.defers = []
  sz : a.tmps.size = nt
  lk : LOk [] [] L a.tmps
  j : J pre V w
section
variable {P : Program} {T : List TyD} {fn : Func} {V : View} {J : List Int → View → World → Prop} {nt n : Nat} {L : Fr} {pre : List Int} {a : Act} {w : World} {I : Fr → View → Prop} {Q : Exit → Act → World → Prop}
theorem ItSv.behind (h : ItSv J nt L V pre a w) (hJ : JOk J) {a' : Act} {w' : World} (hb : BehindV nt V w I a' w') : ∃ L' V', I L' V' ∧ VLe V V' ∧ ItSv J nt L' V' pre a' w' := by
  obtain ⟨h1, h2, L', V', h3, h4, h5, h6, h7, h8⟩ := hb
  exact ⟨L', V', h8, h4, h1, h2, h3, hJ.grow _ _ _ _ _ h.j h6 h4 h5 h7⟩
theorem ItSv.stretch (h : ItSv J nt L V pre a w) (hJ : JOk J) (I : Fr → View → Prop) {c : Code} (hE : Exec (noEnd P T fn nt V) ⟨[.code c, endI I], L, []⟩ V)
    (hQ : ∀ L' V' a' w', I L' V' → VLe V V' → ItSv J nt L' V' pre a' w' → Q .normal a' w') : c.wpIn Fence.wide n P Q a w := by
  obtain ⟨t, d⟩ := a
  have hd : d = [] := h.df
  subst hd
  have := hE.to0 (k := [.code c, endI I]) rfl (FR := frAll w) (env := []) (t := t) h.sz (wok_all (hJ.holds _ _ _ h.j)) h.lk .none
  have h2 : c.wp P (post (noEnd P T fn nt V) (frAll w) .none [endI I]) ⟨t, []⟩ w := this
  exact Code.wpIn_mono (fun e a w' hp => by
    have hp2 := post_noV hp
    obtain ⟨rfl, hp3⟩ := hp2
    obtain ⟨L', V', h1, h2, h3⟩ := h.behind hJ hp3
    exact hQ L' V' a w' h1 h2 h3) (wpIn_wide.2 h2)
theorem ItSv.head (h : ItSv J nt L V pre a w) (hJ : JOk J) (I : Fr → View → Prop) {ops all rest : List Oper} {id : Nat} (hE : Exec (noEnd P T fn nt V) ⟨[.ops ops all [], endI I], L, []⟩ V) (ha : all = ops ++ rest)
    (hQ : ∀ L' V' a' w', I L' V' → VLe V V' → ItSv J nt L' V' pre a' w' → wpListIn Fence.wide n P ⟨all⟩ Q rest a' w') : (Code.region id ⟨all⟩ false).wpIn Fence.wide n P Q a w := by
  obtain ⟨t, d⟩ := a
  have hd : d = [] := h.df
  subst hd
  have := hE.to (frAll w) .none [] t w h.sz (wok_all (hJ.holds _ _ _ h.j)) h.lk (ROk.nil [] _ t) trivial
  have h2 : wpList P ⟨all⟩ (post (noEnd P T fn nt V) (frAll w) .none [endI I]) ops ⟨t, []⟩ w := this
  refine wpIn_region_list ?_
  show wpListIn Fence.wide n P ⟨all⟩ Q all ⟨t, []⟩ w
  have := wpListIn_pre (n := n) (rest := rest) (Q' := Q) (fun e a w h => (post_noV h).1) (fun a w' hp => by
    obtain ⟨L', V', h1, h2, h3⟩ := h.behind hJ (post_noV hp).2; exact hQ L' V' a w' h1 h2 h3) ops _ _ h2
  rwa [← ha] at this
theorem ItSv.ops (h : ItSv J nt L V pre a w) (hJ : JOk J) (I : Fr → View → Prop) {ops all : List Oper} (hE : Exec (noEnd P T fn nt V) ⟨[.ops ops all [], endI I], L, []⟩ V)
    (hQ : ∀ L' V' a' w', I L' V' → VLe V V' → ItSv J nt L' V' pre a' w' → Q .normal a' w') : wpListIn Fence.wide n P ⟨all⟩ Q ops a w := by
  obtain ⟨t, d⟩ := a
  have hd : d = [] := h.df
  subst hd
  have := hE.to (frAll w) .none [] t w h.sz (wok_all (hJ.holds _ _ _ h.j)) h.lk (ROk.nil [] _ t) trivial
  have h2 : wpList P ⟨all⟩ (post (noEnd P T fn nt V) (frAll w) .none [endI I]) ops ⟨t, []⟩ w := this
  have := wpListIn_pre (n := n) (rest := []) (Q' := Q) (fun e a w h => (post_noV h).1) (fun a w' hp => by
    obtain ⟨L', V', h1, h2, h3⟩ := h.behind hJ (post_noV hp).2; exact wpListIn_nil (hQ L' V' a w' h1 h2 h3)) ops _ _ h2
  rwa [List.append_nil] at this
theorem ItSv.eval (h : ItSv J nt L V pre a w) {s : Nat} {x : Value} (hs : lookL L s = some (.v x)) : a.eval (.tmp s) = x := by
  have h1 := (h.lk s (.v x) hs).1
  have h1 : a.tmps[s]? = some x := h1
  simp [Act.eval, Array.getD_eq_getD_getElem?, h1]
theorem ItSv.yield (h : ItSv J nt L V pre a w) {l : Nat} {x : Int} {d g ar : Nat} {rest : List Oper} {all : Array Oper} {o : Oper} {ts : Array TypeId}
    (ho : o.op = .call ⟨.value (.tmp g), #[.tmp ar], ts⟩) (hd : o.dst = some d) (hg : o.guard = none) (hdt : d < nt)
    (h1 : lookL L g = some (.v (.func (.yield l) #[] #[]))) (h2 : lookL L ar = some (.v (.int .i64 x)))
    (hY : YieldAt Fence.wide 0 P l #[encZ x] w fun e W' => e = .returned (.bool true) ∧ ∃ V2, VLe V V2 ∧ J (pre ++ [x]) V2 W')
    (hQ : ∀ V2 a' w', VLe V V2 → ItSv J nt ((d, .v (.bool true)) :: L) V2 (pre ++ [x]) a' w' → wpListIn Fence.wide 0 P all Q rest a' w') : wpListIn Fence.wide 0 P all Q (o :: rest) a w := by
  obtain ⟨f1, f2, f3, f4, hy, hR⟩ := hY
  refine wpListIn_plain hg (fun K hK => ?_)
  refine ⟨fun _ _ => trivial, ?_⟩
  have hs : (o.semAt Fence.wide.round a.eval) = execOp a.eval o := Oper.semAt_none _ _
  rw [hs]
  have he1 : a.tmps[g]? = some (.func (.yield l) #[] #[]) := (h.lk g _ h1).1
  have he2 : a.tmps[ar]? = some (.int .i64 x) := (h.lk ar _ h2).1
  have hrun : (execOp a.eval o).run P w = .ok (.round l f1 f2 f3 f4) w := by
    simp only [execOp, ho]
    simp [go_sem, he1, he2, resolve, invoke]
    exact hy
  rw [hrun, Oper.uponIn_round]
  refine ⟨fun hh => by simp [Fence.wide] at hh, hR.mono ?_⟩
  rintro e W' ⟨rfl, V2, hv, hj⟩
  refine hK _ _ (hQ V2 _ _ hv ⟨?_, ?_, ?_, hj⟩)
  · simp [Act.put, hd, h.df]
  · simp [Act.put, hd, h.sz]
  · have := h.lk.put (x := .v (.bool true)) (d := d) (by rw [h.sz]; exact hdt) trivial
    simpa [Act.put, hd, den] using this
end

/-! ### The caller's side -/
def plainL : Fr → Bool
  | [] => true
  | (_, .v _) :: l => plainL l
  | _ => false
theorem plainL_look : ∀ {L : Fr} {s : Nat} {x : SV}, plainL L = true → lookL L s = some x → ∃ y, x = .v y
  | [], s, x, _, h => by simp [lookL] at h
  | (d, .v y) :: L, s, x, hp, h => by
    rw [lookL_cons] at h
    split at h
    · simp only [Option.some.injEq] at h
      exact ⟨y, h.symm⟩
    · exact plainL_look (L := L) hp h
  | (d, .ptr _ _) :: L, s, x, hp, h => by simp [plainL] at hp
  | (d, .slc _ _ _ _) :: L, s, x, hp, h => by simp [plainL] at hp
  | (d, .el _ _) :: L, s, x, hp, h => by simp [plainL] at hp
theorem LOk.plain {env env' : List Nat} {M M' : List OB} {L : Fr} {t : Array Value} (h : LOk env M L t) (hp : plainL L = true) : LOk env' M' L t := fun s x hx => by
  obtain ⟨y, rfl⟩ := plainL_look hp hx
  exact ⟨(h s _ hx).1, trivial⟩
def Frm.add (FR : Frm) (b : Nat) (o : Obj) : Frm := { FR with blk := fun k => if k = b then some o else FR.blk k }
theorem Frm.add_blk (FR : Frm) (b : Nat) (o : Obj) (k : Nat) : (FR.add b o).blk k = if k = b then some o else FR.blk k := rfl
section
variable {P : Program} {nt : Nat} {V0 V : View} {FR : Frm} {L : Fr} {M : List OB} {a : Act} {w : World} {Q : Exit → Act → World → Prop}
theorem RSt.rangeF (h : RSt nt V0 FR [] L V M a w) {g : Operand} {v : Value} {p : Tmp} {assign body : Code} {xs : List Int} {L2 : Int → Fr} {n : Nat} (hg : a.eval g = v) (hs : SeqVAt P V v xs) (hL : plainL L = true) (hpn : p < nt)
    (I : List Int → View → List OB → Prop) (hI : ∀ s V V' M, VLe V V' → I s V M → I s V' M) (h0 : I [] V M)
    (hassign : ∀ (l : Nat) (FR1 : Frm) (x : Int) (V1 : View) (M1 : List OB) (a1 : Act) (W1 : World) (K : Act → World → Prop), RSt nt V0 FR1 [] ((p, .v (.int .i64 x)) :: L) V1 M1 a1 W1 → (∀ a2 W2, RSt nt V0 FR1 [] (L2 x) V1 M1 a2 W2 → K a2 W2) →
      assign.wpIn (FW (some l)) 0 P (Exit.then K (fun _ _ _ => False)) a1 W1)
    (hbody : ∀ (l : Nat) (FR1 : Frm) (pre : List Int) (x : Int) (rest : List Int) (V1 : View) (M1 : List OB) (a1 : Act) (W1 : World) (Q1 : Exit → Act → World → Prop), xs = pre ++ x :: rest → I pre V1 M1 → RSt nt V0 FR1 [] (L2 x) V1 M1 a1 W1 →
      (∀ L3 V3 M3 a3 W3, VLe V1 V3 → I (pre ++ [x]) V3 M3 → RSt nt V0 FR1 [] L3 V3 M3 a3 W3 → Q1 .normal a3 W3) → body.wpIn (FW (some l)) 0 P Q1 a1 W1)
    (hend : ∀ (D : Nat) (V' : View) (M' : List OB) (a' : Act) (W' : World), FR.blk D = none → VLe V V' → I xs V' M' → RSt nt V0 (FR.add D (.deferred (some []))) [{ target := .collected D, args := #[] }] L V' M' a' W' → Q .normal a' W') :
    (Code.rangeFunc g #[p] assign body).wpIn Fence.wide n P Q a w := by
  obtain ⟨env, hW, hLk⟩ := h.st
  obtain ⟨gf, lb, rfl, eg, hseq⟩ := hs
  have hro : Fence.wide.round = none := rfl
  refine wpIn_rangeFunc ?_
  intro fn hfn
  rw [hro]
  obtain ⟨rec, hrec⟩ : ∃ rec : LoopState → Loop, rec = fun st => { state := st, pending := none, fn, tmps := a.tmps, params := #[p], assign, body, defers := w.heap.size } := ⟨_, rfl⟩
  obtain ⟨W1, hW1⟩ : ∃ W1, (w.alloc (.deferred (some []))).alloc (.loop (rec .ready)) = W1 := ⟨_, rfl⟩
  have hb1 : Below w.heap.size w W1 := by
    rw [← hW1]; exact ((Below.refl _ w).alloc (Nat.le_refl _) _).alloc (by simp) _
  have hL1 : W1.heap[w.heap.size + 1]? = some (.loop (rec .ready)) := by
    rw [← hW1]; have := World.alloc_heap_new (w.alloc (.deferred (some []))) (.loop (rec .ready)); rwa [World.size_alloc] at this
  have hK1 : W1.heap[w.heap.size]? = some (.deferred (some [])) := by
    rw [← hW1]; exact (Below.heap_alloc _ _ _ (by simp)).trans (World.alloc_heap_new w _)
  have hFD : ∀ k, w.heap.size ≤ k → FR.blk k = none := fun k hk => by
    cases hf : FR.blk k with
    | none => rfl
    | some o => have := (Array.getElem?_eq_some_iff.1 (hW.frame k o hf)).1; omega
  obtain ⟨FRr, hFRr⟩ : ∃ FRr : LoopState → Frm, FRr = fun st => (FR.add w.heap.size (.deferred (some []))).add (w.heap.size + 1) (.loop (rec st)) := ⟨_, rfl⟩
  have hfl : ∀ st, (FRr st).blk (w.heap.size + 1) = some (.loop (rec st)) := fun st => by rw [hFRr]; simp [Frm.add_blk]
  have hfD : ∀ st, (FRr st).blk w.heap.size = some (.deferred (some [])) := fun st => by rw [hFRr]; simp [Frm.add_blk]
  have hturn : ∀ {st st' : LoopState} {env' : List Nat} {V' : View} {M' : List OB} {W' : World}, WOk V0 (FRr st) env' V' M' W' → WOk V0 (FRr st') env' V' M' (W'.putObj (w.heap.size + 1) (.loop (rec st'))) := fun {st st' env' V' M' W'} hw => by
    refine hw.turn (hw.frame _ _ (hfl st)) rfl (by rw [hFRr]; rfl) (by rw [hFRr]; rfl) (by rw [hFRr]; rfl) (fun b x hx => ?_) (fun b hb => ?_)
    · by_cases e : b = w.heap.size + 1
      · subst e; rw [hfl] at hx; rw [if_pos rfl]; exact (Option.some.inj hx).symm
      · rw [if_neg e]
        rw [hFRr] at hx ⊢
        simpa [Frm.add_blk, e] using hx
    · rw [hFRr] at hb ⊢
      simp only [Frm.add_blk] at hb ⊢
      split at hb
      · cases hb
      · rename_i e; rw [if_neg e]; exact hb
  have hWa : WOk V0 (FRr .ready) env V M W1 := by
    refine (hW.grow hb1 (VLe.refl V) (holds_below hW.holds hb1) (fun a x h => .inl h)).strong (by rw [hFRr]; rfl) (by rw [hFRr]; rfl) (by rw [hFRr]; rfl) (fun b x hx => ?_)
    rw [hFRr] at hx
    simp only [Frm.add_blk] at hx
    split at hx
    · rename_i e; subst e; cases hx; exact .inr ⟨hL1, rfl⟩
    · split at hx
      · rename_i e; subst e; cases hx; exact .inr ⟨hK1, rfl⟩
      · exact .inl hx
  obtain ⟨J, hJd⟩ : ∃ J : List Int → View → World → Prop, J = fun s V' W' => VLe V V' ∧ ∃ env' M', WOk V0 (FRr .ready) env' V' M' W' ∧ I s V' M' := ⟨_, rfl⟩
  have hJ : JOk J := by
    subst hJd
    exact ⟨fun s V' W' ⟨_, env', M', k, _⟩ => k.holds, fun s V' W' V2 W2 ⟨k0, env', M', k, k2⟩ hb hv hh hn => ⟨k0.trans hv, env', M', k.grow hb hv hh hn, hI s V' V2 M' hv k2⟩⟩
  refine ⟨w.heap.size + 1, [{ target := .collected w.heap.size, args := #[] }], W1, { target := .fn (.func gf) lb, args := #[.func (.yield (w.heap.size + 1)) #[] #[]] }, W1, gf,
    #[.func (.yield (w.heap.size + 1)) #[] #[]] ++ lb, W1, ?_, ?_, ?_, ?_, fun hh => by simp [Fence.wide] at hh, ?_⟩
  · rw [← hW1, hrec]; exact run_enterLoop_outer _ _ _ _ _
  · simp only [resolve, hg]
    simp [go_sem]
  · intro f' hf'; trivial
  · simp [invoke, go_sem, eg]
  · refine callsIn_wide.2 ((hseq (w.heap.size + 1) J V W1 (VLe.refl V) hJ (fun pre x rest V1 W2 hx hj => ?_) (by rw [hJd]; exact ⟨VLe.refl V, env, M, hWa, h0⟩)).mono ?_)
    · rw [hJd] at hj
      obtain ⟨hv1, env1, M1, hWb, hIb⟩ := hj
      have hl := hWb.frame _ _ (hfl .ready)
      refine ⟨fn, a.tmps.setIfInBounds p (.int .i64 x), assign, body, ?_, roundIn_of_wpIn hfn ?_⟩
      · have := run_yield (P := P) (args := #[encZ x]) hl (by rw [hrec]; rfl)
        rw [this, hrec]
        simp [encZ]
      · have hlk1 : LOk env1 M1 ((p, .v (.int .i64 x)) :: L) (a.tmps.setIfInBounds p (.int .i64 x)) := by
          have := (hLk.plain (env' := env1) (M' := M1) hL).put (x := .v (.int .i64 x)) (d := p) (by rw [h.sz]; exact hpn) trivial
          simpa [den] using this
        refine hassign (w.heap.size + 1) (FRr .ready) x V1 M1 _ W2 _ ⟨rfl, by simp [h.sz], env1, hWb, hlk1⟩ (fun a2 W3 hR => ?_)
        obtain ⟨env2, hWc, hLc⟩ := hR.st
        have hl2 := hWc.frame _ _ (hfl .ready)
        have hrb : (.loop { rec .ready with state := .busy } : Obj) = .loop (rec .busy) := by rw [hrec]
        refine ⟨_, run_beginRound hl2 (by rw [hrec]), ?_⟩
        rw [hrb]
        refine hbody (w.heap.size + 1) (FRr .busy) pre x rest V1 M1 a2 _ _ hx hIb ⟨hR.df, hR.sz, env2, hturn hWc, hLc⟩ (fun L3 V3 M3 a3 W4 hv3 hI3 hR3 => ?_)
        obtain ⟨env3, hWd, _⟩ := hR3.st
        have hl3 := hWd.frame _ _ (hfl .busy)
        have hre : (.loop { rec .busy with state := .ready, pending := none } : Obj) = .loop (rec .ready) := by rw [hrec]
        refine ⟨_, _, run_endRound none hl3, rfl, V3, hv3, ?_⟩
        rw [hJd]
        refine ⟨hv1.trans hv3, env3, M3, ?_, hI3⟩
        have := hturn (st' := .ready) hWd
        rw [← hre] at this
        simpa using this
    · rintro e W5 ⟨⟨v0, rfl⟩, V5, hj⟩
      rw [hJd] at hj
      obtain ⟨hv5, env5, M5, hW5, hI5⟩ := hj
      have hl5 := hW5.frame _ _ (hfl .ready)
      have hE := run_endLoop (P := P) hl5 (by rw [hrec]; simp)
      have hpn0 : (rec .ready).pending = none := by rw [hrec]
      rw [hpn0] at hE
      refine ⟨none, _, hE, ?_⟩
      refine hend w.heap.size V5 M5 _ _ (hFD _ (Nat.le_refl _)) hv5 hI5 ⟨?_, h.sz, env5, ?_, hLk.plain hL⟩
      · show [_] ++ a.defers = _
        rw [h.df]; rfl
      · refine hW5.turn hl5 rfl (by rw [hFRr]; rfl) (by rw [hFRr]; rfl) (by rw [hFRr]; rfl) (fun b x hx => ?_) (fun b hb => ?_)
        · by_cases e : b = w.heap.size + 1
          · subst e
            simp only [Frm.add_blk] at hx
            rw [if_neg (by omega), hFD _ (by omega)] at hx
            cases hx
          · rw [if_neg e, hFRr]
            simpa [Frm.add_blk, e] using hx
        · rw [hFRr] at hb
          simp only [Frm.add_blk] at hb ⊢
          split at hb
          · cases hb
          · exact hb
theorem RSt.leaves {T : List TyD} (hT : TOk P T) {V' : View} {D n : Nat} {fn : Func} {rs : List ResultVar} {vs : List Value} {R : Ending → World → Prop} (h : RSt nt V0 (FR.add D (.deferred (some []))) [{ target := .collected D, args := #[] }] L V' M a w)
    (hres : fn.results = ⟨rs⟩) (hv : resV T L M rs = some vs) (hFD : FR.blk D = none) (hR : ∀ env w', WOk V0 FR env V' M w' → R (.returned (retV vs)) w') : LeavesInM Fence.wide n P fn a.tmps R a.defers .returning w := by
  obtain ⟨env, hW, hLk⟩ := h.st
  have hD := hW.frame D _ (by rw [Frm.add_blk, if_pos rfl])
  have hW' : WOk V0 FR env V' M (w.putObj D (.deferred none)) := hW.turn hD rfl rfl rfl rfl (fun b x hx => by
      by_cases e : b = D
      · subst e; rw [hFD] at hx; cases hx
      · rw [if_neg e, Frm.add_blk, if_neg e]; exact hx) (fun b hb => by
      rw [Frm.add_blk] at hb
      split at hb
      · cases hb
      · exact hb)
  rw [h.df]
  refine ⟨by simp, .inl ⟨D, _, rfl, run_takeDeferred hD, ?_⟩⟩
  exact ⟨_, (Exec.retAt (C := ⟨P, T, fn, nt, V0, fun _ _ _ => True⟩) hT hres hv trivial hW' hLk).1, hR env _ hW'⟩
theorem RSt.leaves0 {T : List TyD} (hT : TOk P T) {V' : View} {n : Nat} {fn : Func} {rs : List ResultVar} {vs : List Value} {R : Ending → World → Prop} (h : RSt nt V0 FR [] L V' M a w)
    (hres : fn.results = ⟨rs⟩) (hv : resV T L M rs = some vs) (hR : ∀ env, WOk V0 FR env V' M w → R (.returned (retV vs)) w) : LeavesInM Fence.wide n P fn a.tmps R a.defers .returning w := by
  obtain ⟨env, hW, hLk⟩ := h.st
  rw [h.df]
  exact ⟨_, (Exec.retAt (C := ⟨P, T, fn, nt, V0, fun _ _ _ => True⟩) hT hres hv trivial hW hLk).1, hR env hW⟩
end
theorem Spec.enterF {P : Program} {f nt : Nat} {fn : Func} {c : Code} {args : List Value} {V : View} {R : View → Value → Prop} {L : Fr}
    (hf : P.funcs[f]? = some fn) (hb : fn.body = some c) (hname : (fn.name == "runtime.NumGoroutine") = false) (hnt : fn.ntmps = nt) (hlen : Nat.ble args.length nt = true) (hL : argFr 0 args = L)
    (h : ∀ (w : World) (a : Act), RSt nt V (frAll w) [] L V [] a w → c.wpIn Fence.wide 1 P (bodyPostM Fence.wide 1 P fn fun e w' => ∃ v env V' M', e = .returned v ∧ WOk V (frAll w) env V' M' w' ∧ R V' v) a w) : Spec P f args V R := by
  refine ⟨⟨fn, hf, by rw [hb]; rfl, hname⟩, fun w hw => ?_⟩
  have hle := Nat.le_of_ble_eq_true hlen
  have hc := callsIn_of_wp_marks (F := Fence.wide) (n := 1) (args := ⟨args⟩) (w := w) hf hb trivial (h w { tmps := (⟨args⟩ : Array Value) ++ Array.replicate (fn.ntmps - args.length) undef, defers := [] } ⟨rfl, by simp [hnt]; omega, [], wok_all hw, by rw [← hL]; exact lok_args args _⟩) rfl
  refine (callsIn_wide.1 hc).mono ?_
  rintro e w' ⟨v, env, V', M', rfl, hW, hR⟩
  refine ⟨v, V', rfl, wok_below hW, hW.le, hW.holds, fun b x hx => ?_, hR⟩
  rcases hW.fresh b x hx with k | k
  · exact .inl k
  · right
    have k : w.heap[b.block]? = none := k
    simpa using k
end Go.Proofs.YtonijgmopcmldaaGreat
