/-
  A FRAMEWORK FOR PROOFS ABOUT CALLS (part i): contracts; entering, leaving, calling; strings by index; elements of slices.
  Conditions: the table of types is the program's (TOk).
-/
import Derived.Test.YtkbldnpifmjipaaFh
set_option linter.all false
namespace Go.Proofs.Ytkbldnpifmjipaa

/-- A function with a body. -/
def IsFn (P : Program) (f : Nat) : Prop := ∃ fn, P.funcs[f]? = some fn ∧ fn.body.isNone = false ∧ (fn.name == "runtime.NumGoroutine") = false

/-- A CONTRACT: called with these arguments, in any world in which the view holds, the function returns a value of which R speaks; nothing that was there is changed. -/
def Spec (P : Program) (f : Nat) (args : List Value) (V : View) (R : View → Value → Prop) : Prop :=
  IsFn P f ∧ ∀ w, Holds V w → Calls P f ⟨args⟩ w fun e w' => ∃ v V', e = .returned v ∧ Go.RowKit.Below w.heap.size w w' ∧ VLe V V' ∧ Holds V' w' ∧
    (∀ a x, V' a = some x → V a = some x ∨ w.heap.size ≤ a.block) ∧ R V' v

theorem Spec.mono {P : Program} {f : Nat} {args : List Value} {V : View} {R R' : View → Value → Prop} (h : Spec P f args V R) (hr : ∀ V' v, VLe V V' → R V' v → R' V' v) : Spec P f args V R' :=
  ⟨h.1, fun w hw => (h.2 w hw).mono fun _ _ ⟨v, V', h1, h2, h3, h4, h5, h6⟩ => ⟨v, V', h1, h2, h3, h4, h5, hr V' v h3 h6⟩⟩

def argFr : Nat → List Value → Fr
  | _, [] => []
  | i, v :: vs => (i, .v v) :: argFr (i + 1) vs

theorem argFr_look : ∀ (vs : List Value) (i s : Nat) (x : SV), lookL (argFr i vs) s = some x → ∃ v, x = .v v ∧ i ≤ s ∧ vs[s - i]? = some v
  | [], i, s, x, h => by simp [argFr, lookL] at h
  | v :: vs, i, s, x, h => by
    simp only [argFr] at h
    rw [lookL_cons] at h
    split at h
    · rename_i he
      simp only [Option.some.injEq] at h
      subst h; subst he
      exact ⟨v, rfl, Nat.le_refl _, by simp⟩
    · rename_i he
      obtain ⟨y, h1, h2, h3⟩ := argFr_look vs (i + 1) s x h
      refine ⟨y, h1, by omega, ?_⟩
      rw [show s - i = (s - (i + 1)) + 1 by omega]
      simpa using h3

theorem Spec.enter {P : Program} {T : List TyD} {f nt : Nat} {fn : Func} {c : Code} {args : List Value} {V : View} {R : View → Value → Prop} {L : Fr}
    (hf : P.funcs[f]? = some fn) (hb : fn.body = some c) (hname : (fn.name == "runtime.NumGoroutine") = false) (hnt : fn.ntmps = nt) (hlen : Nat.ble args.length nt = true) (hL : argFr 0 args = L)
    (h : Exec ⟨P, T, fn, nt, V, fun V v _ => R V v⟩ ⟨[.code c], L, []⟩ V) : Spec P f args V R := by
  refine ⟨⟨fn, hf, by rw [hb]; rfl, hname⟩, fun w hw => ?_⟩
  let FR : Frm := ⟨w.os, w.tape, w.output, fun b => w.heap[b]?⟩
  have hWOk : WOk V FR [] V [] w := ⟨rfl, rfl, rfl, fun _ _ h => h, VLe.refl V, hw, fun _ _ h => .inl h, rfl, fun i o h => by simp at h, fun i o a h => by simp at h, fun i o a h => by simp at h, fun i j o o' a _ h => by simp at h⟩
  have hle := Nat.le_of_ble_eq_true hlen
  have hcall := calls_of_wp (P := P) (f := f) (args := ⟨args⟩) (w := w) (R := endP ⟨P, T, fn, nt, V, fun V v _ => R V v⟩ FR) hf hb (by
    refine h.to0 (k := [.code c]) rfl (FR := FR) (env := []) (t := (⟨args⟩ : Array Value) ++ Array.replicate (fn.ntmps - args.length) undef) ?_ hWOk ?_ .none
    · simp [hnt]; omega
    · intro s x hx
      rw [← hL] at hx
      obtain ⟨v, rfl, _, h2⟩ := argFr_look args 0 s x hx
      refine ⟨?_, trivial⟩
      have hs : s < args.length := (List.getElem?_eq_some_iff.1 h2).1
      rw [Array.getElem?_append]
      simpa [hs, den] using h2)
  refine hcall.mono fun e w' hp => ?_
  obtain ⟨v, env', V', M', h1, hW', h9⟩ := hp
  have h2 := hW'.os; have h3 := hW'.tape; have h4 := hW'.output; have h5 := hW'.frame; have h6 := hW'.le; have h7 := hW'.holds; have h8 := hW'.fresh
  have hblk : ∀ k, k < w.heap.size → w'.heap[k]? = w.heap[k]? := fun k hk => by
    have : w.heap[k]? = some w.heap[k] := by simp [hk]
    rw [this]
    exact h5 k _ this
  refine ⟨v, V', h1, ⟨h2, h3, h4, ?_, hblk⟩, h6, h7, fun a x hx => ?_, h9⟩
  · rcases Nat.eq_zero_or_pos w.heap.size with h0 | h0
    · omega
    · have := hblk (w.heap.size - 1) (by omega)
      have h1 : w.heap[w.heap.size - 1]? = some w.heap[w.heap.size - 1] := by simp [h0]
      rw [h1] at this
      have := (Array.getElem?_eq_some_iff.1 this).1
      omega
  · rcases h8 a x hx with h | h
    · exact .inl h
    · right
      refine Nat.le_of_not_lt fun hl => ?_
      have : w.heap[a.block]? = none := h
      simp at this
      omega

theorem Spec.enter1 {P : Program} {T : List TyD} {f nt : Nat} {fn : Func} {c : Code} {a : Value} {V : View} {R : View → Value → Prop}
    (hf : P.funcs[f]? = some fn) (hb : fn.body = some c) (hname : (fn.name == "runtime.NumGoroutine") = false) (hnt : fn.ntmps = nt) (hlen : Nat.ble 1 nt = true)
    (h : Exec ⟨P, T, fn, nt, V, fun V v _ => R V v⟩ ⟨[.code c], [(0, .v a)], []⟩ V) : Spec P f [a] V R := Spec.enter hf hb hname hnt hlen rfl h
theorem Spec.enter2 {P : Program} {T : List TyD} {f nt : Nat} {fn : Func} {c : Code} {a b : Value} {V : View} {R : View → Value → Prop}
    (hf : P.funcs[f]? = some fn) (hb : fn.body = some c) (hname : (fn.name == "runtime.NumGoroutine") = false) (hnt : fn.ntmps = nt) (hlen : Nat.ble 2 nt = true)
    (h : Exec ⟨P, T, fn, nt, V, fun V v _ => R V v⟩ ⟨[.code c], [(0, .v a), (1, .v b)], []⟩ V) : Spec P f [a, b] V R := Spec.enter hf hb hname hnt hlen rfl h
theorem Spec.enter3 {P : Program} {T : List TyD} {f nt : Nat} {fn : Func} {c : Code} {a b d : Value} {V : View} {R : View → Value → Prop}
    (hf : P.funcs[f]? = some fn) (hb : fn.body = some c) (hname : (fn.name == "runtime.NumGoroutine") = false) (hnt : fn.ntmps = nt) (hlen : Nat.ble 3 nt = true)
    (h : Exec ⟨P, T, fn, nt, V, fun V v _ => R V v⟩ ⟨[.code c], [(0, .v a), (1, .v b), (2, .v d)], []⟩ V) : Spec P f [a, b, d] V R := Spec.enter hf hb hname hnt hlen rfl h
theorem Spec.enter4 {P : Program} {T : List TyD} {f nt : Nat} {fn : Func} {c : Code} {a b d e : Value} {V : View} {R : View → Value → Prop}
    (hf : P.funcs[f]? = some fn) (hb : fn.body = some c) (hname : (fn.name == "runtime.NumGoroutine") = false) (hnt : fn.ntmps = nt) (hlen : Nat.ble 4 nt = true)
    (h : Exec ⟨P, T, fn, nt, V, fun V v _ => R V v⟩ ⟨[.code c], [(0, .v a), (1, .v b), (2, .v d), (3, .v e)], []⟩ V) : Spec P f [a, b, d, e] V R := Spec.enter hf hb hname hnt hlen rfl h
theorem Spec.enter5 {P : Program} {T : List TyD} {f nt : Nat} {fn : Func} {c : Code} {a b d e g : Value} {V : View} {R : View → Value → Prop}
    (hf : P.funcs[f]? = some fn) (hb : fn.body = some c) (hname : (fn.name == "runtime.NumGoroutine") = false) (hnt : fn.ntmps = nt) (hlen : Nat.ble 5 nt = true)
    (h : Exec ⟨P, T, fn, nt, V, fun V v _ => R V v⟩ ⟨[.code c], [(0, .v a), (1, .v b), (2, .v d), (3, .v e), (4, .v g)], []⟩ V) : Spec P f [a, b, d, e, g] V R := Spec.enter hf hb hname hnt hlen rfl h
theorem Spec.enter0 {P : Program} {T : List TyD} {f nt : Nat} {fn : Func} {c : Code} {V : View} {R : View → Value → Prop}
    (hf : P.funcs[f]? = some fn) (hb : fn.body = some c) (hname : (fn.name == "runtime.NumGoroutine") = false) (hnt : fn.ntmps = nt) (hlen : Nat.ble 0 nt = true)
    (h : Exec ⟨P, T, fn, nt, V, fun V v _ => R V v⟩ ⟨[.code c], [], []⟩ V) : Spec P f [] V R := Spec.enter hf hb hname hnt hlen rfl h

/-! ### Leaving -/

def resV (T : List TyD) (L : Fr) (M : List OB) : List ResultVar → Option (List Value)
  | [] => some []
  | .tmp s :: r => match lookL L s with
    | some (.v x) => match resV T L M r with
      | some l => some (x :: l)
      | none => none
    | _ => none
  | .cell s t :: r => match lookL L s with
    | some (.ptr i o) => match nth M i, nth T t with
      | some (.blk cs _), some d => match d.size with
        | 0 => none
        | _ + 1 => match loadSV d cs o with
          | some (.v x) => match resV T L M r with
            | some l => some (x :: l)
            | none => none
          | _ => none
      | _, _ => none
    | _ => none

def retV : List Value → Value
  | [x] => x
  | l => .tuple ⟨l⟩

def resM (t : Array Value) : ResultVar → Sem Value
  | .tmp s => pure (t.getD s undef)
  | .cell a ty => do loadVar ty (← asAddr (t.getD a undef))

theorem resV_sound {P : Program} {T : List TyD} (hT : TOk P T) {V0 V : View} {FR : Frm} {env : List Nat} {L : Fr} {M : List OB} {t : Array Value} {w : World} (hW : WOk V0 FR env V M w) (hL : LOk env M L t) :
    ∀ (rs : List ResultVar) (vs : List Value), resV T L M rs = some vs → (rs.mapM (resM t)).run P w = .ok vs w
  | [], vs, h => by simp only [resV, Option.some.injEq] at h; subst h; simp
  | .tmp s :: r, vs, h => by
    simp only [resV] at h
    split at h <;> try (simp at h; done)
    rename_i x hx
    split at h <;> try (simp at h; done)
    rename_i l hl
    simp only [Option.some.injEq] at h; subst h
    have ih := resV_sound hT hW hL r l hl
    obtain ⟨h1, _⟩ := hL s _ hx
    have h2 : t.getD s undef = x := by simp [h1, den]
    simp only [List.mapM_cons, resM, Sem.run_bind, Sem.run_pure, Result.andThen_ok, ih, h2]
  | .cell s ty :: r, vs, h => by
    simp only [resV] at h
    split at h <;> try (simp at h; done)
    rename_i i o hx
    split at h <;> try (simp at h; done)
    rename_i cs ty' d hM hd
    split at h <;> try (simp at h; done)
    rename_i n hsz
    split at h <;> try (simp at h; done)
    rename_i x hld
    split at h <;> try (simp at h; done)
    rename_i l hl
    simp only [Option.some.injEq] at h; subst h
    have ih := resV_sound hT hW hL r l hl
    obtain ⟨h1, _⟩ := hL s _ hx
    have h2 : t.getD s undef = .pointer (some ⟨envAt env i, o, none⟩) := by simp [h1, den]
    rw [nth_eq] at hM
    have h3 := run_loadSV hT (hW.sat i _ hM).1 hd (by omega) hld
    have h4 : (asAddr (t.getD s undef)).run P w = .ok ⟨envAt env i, o, none⟩ w := by rw [h2]; rfl
    simp only [List.mapM_cons, resM, Sem.run_bind, h4, Sem.run_pure, Result.andThen_ok, h3, ih, den]

theorem Exec.retAt {C : Ctx} (hT : TOk C.P C.T) {L : Fr} {M : List OB} {V : View} {rs : List ResultVar} {vs : List Value} (hres : C.fn.results = ⟨rs⟩) (hv : resV C.T L M rs = some vs) (hR : C.R V (retV vs) M)
    {FR : Frm} {env : List Nat} {t : Array Value} {w : World} (h2 : WOk C.V0 FR env V M w) (h3 : LOk env M L t) : (results C.fn t).run C.P w = .ok (retV vs) w ∧ endP C FR (.returned (retV vs)) w := by
  refine ⟨?_, retV vs, env, V, M, rfl, h2, hR⟩
  have := resV_sound hT h2 h3 rs vs hv
  have hr : results C.fn t = (⟨rs⟩ : Array ResultVar).mapM (resM t) >>= fun vs => (pure (if h : vs.size = 1 then vs[0] else .tuple vs) : Sem Value) := by
    unfold results
    rw [hres]
    rfl
  rw [hr, List.mapM_toArray]
  simp only [Sem.run_bind, Sem.run_map, this, Result.andThen_ok, Sem.run_pure]
  congr 1
  match vs with
  | [] => rfl
  | [x] => simp [retV]
  | x :: y :: l => simp [retV]

theorem Exec.ret {C : Ctx} (hT : TOk C.P C.T) {k : List Kt} {L : Fr} {M : List OB} {V : View} {rs : List ResultVar} {vs : List Value} (hres : C.fn.results = ⟨rs⟩) (hv : resV C.T L M rs = some vs) (hR : C.R V (retV vs) M) :
    Exec C ⟨.code .ret :: k, L, M⟩ V := by
  refine Exec.of fun FR DF env t w h1 h2 h3 _ _ => wp_ret ?_
  obtain ⟨k1, k2⟩ := Exec.retAt hT hres hv hR h2 h3
  exact ret_sound ⟨rfl, _, k1, k2⟩ k _

theorem Exec.fall {C : Ctx} (hT : TOk C.P C.T) {L : Fr} {M : List OB} {V : View} {rs : List ResultVar} {vs : List Value} (hres : C.fn.results = ⟨rs⟩) (hv : resV C.T L M rs = some vs) (hR : C.R V (retV vs) M) :
    Exec C ⟨[], L, M⟩ V := by
  refine Exec.of fun FR DF env t w h1 h2 h3 _ _ => ?_
  obtain ⟨k1, k2⟩ := Exec.retAt hT hres hv hR h2 h3
  exact ⟨rfl, _, k1, k2⟩

/-! ### Conditions of a guarded operation -/

/-- 'p, if the conditions hold'. -/
def Imp (lr : List REnt) : List (Nat × Bool) → Prop → Prop
  | [], p => p
  | (r, b) :: G, p => match lookR lr r with
    | some ⟨_, _, .v (.bool x), _⟩ => x = b → Imp lr G p
    | _ => Imp lr G p

theorem Imp.out {env : List Nat} {M : List OB} {lr : List REnt} {t : Array Value} (hR : ROk env M lr t) {p : Prop} : ∀ {G : List (Nat × Bool)}, condT t G → Imp lr G p → p
  | [], _, h => h
  | (r, b) :: G, hc, h => by
    simp only [Imp] at h
    split at h
    · rename_i s c x r' he
      obtain ⟨h1, h2, h3⟩ := hR r _ he
      have hcc : condT t c := by
        refine Classical.byContradiction fun hn => ?_
        have := h2 hn
        rw [hc.1] at this
        simp [undef] at this
      have := (h1 hcc).1
      rw [hc.1] at this
      simp only [den, Option.some.injEq, Value.bool.injEq] at this
      exact Imp.out hR hc.2 (h this.symm)
    · exact Imp.out hR hc.2 h

/-- The head of an operation: its guard's conditions, its slot. -/
def headOf (nt : Nat) (all : List Oper) (lr : List REnt) (L : Fr) (o : Oper) : Option (List (Nat × Bool) × Nat) :=
  match guardC all lr o.guard with
  | some [] => match o.dst with
    | some d => match Nat.blt d nt, freshR d lr with
      | true, true => some ([], d)
      | _, _ => none
    | none => none
  | some (g :: G) => match o.dst with
    | some d => match Nat.blt d nt, freshR d lr, lookL L d with
      | true, true, none => some (g :: G, d)
      | _, _, _ => none
    | none => none
  | none => none

def nextL (G : List (Nat × Bool)) (d : Nat) (x : SV) (L : Fr) : Fr :=
  match G with
  | [] => (d, x) :: L
  | _ => L

theorem headOf_some {nt : Nat} {all : List Oper} {lr : List REnt} {L : Fr} {o : Oper} {G : List (Nat × Bool)} {d : Nat} (h : headOf nt all lr L o = some (G, d)) :
    guardC all lr o.guard = some G ∧ o.dst = some d ∧ Nat.blt d nt = true ∧ freshR d lr = true ∧ (G = [] ∨ (G ≠ [] ∧ lookL L d = none)) := by
  unfold headOf at h
  split at h <;> try (simp at h; done)
  · rename_i hg
    split at h <;> try (simp at h; done)
    rename_i d' hd
    split at h <;> try (simp at h; done)
    rename_i hn hf
    simp only [Option.some.injEq, Prod.mk.injEq] at h
    obtain ⟨rfl, rfl⟩ := h
    exact ⟨hg, hd, hn, hf, .inl rfl⟩
  · rename_i g G' hg
    split at h <;> try (simp at h; done)
    rename_i d' hd
    split at h <;> try (simp at h; done)
    rename_i hn hf hl
    simp only [Option.some.injEq, Prod.mk.injEq] at h
    obtain ⟨rfl, rfl⟩ := h
    exact ⟨hg, hd, hn, hf, .inr ⟨by simp, hl⟩⟩

/-- One operation under its guard: what it yields where the guard holds. -/
theorem Exec.yields {C : Ctx} {o : Oper} {rest all : List Oper} {lr : List REnt} {k : List Kt} {L : Fr} {M : List OB} {V : View} {G : List (Nat × Bool)} {x : SV} {d : Nat}
    (hh : headOf C.nt all lr L o = some (G, d))
    (hy : ∀ FR env t w, WOk C.V0 FR env V M w → LOk env M L t → ROk env M lr t → condT t G → x.ok M ∧
      ∀ K Q, (∀ w', WOk C.V0 FR env V M w' → K (({ tmps := t, defers := [] } : Act).put o.dst (den env x)) w') → o.wp C.P ⟨t, []⟩ w K Q)
    (h : Exec C ⟨.ops rest all (⟨d, G, x, d⟩ :: lr) :: k, nextL G d x L, M⟩ V) : Exec C ⟨.ops (o :: rest) all lr :: k, L, M⟩ V := by
  refine Exec.of fun FR DF env t w h1 h2 h3 h4 h5 => ?_
  obtain ⟨hg, hd, hn, hf, hGL⟩ := headOf_some hh
  have hdt : d < t.size := by rw [h1]; simpa [Nat.blt_eq] using hn
  have hw := guard_sound h4 hg
  have fin : ∀ u w', WOk C.V0 FR env V M w' → ((condT t G → u = den env x ∧ x.ok M) ∧ (¬ condT t G → u = undef)) → post C FR DF (.ops rest all (⟨d, G, x, d⟩ :: lr) :: k) .normal ⟨t.setIfInBounds d u, []⟩ w' := by
    intro u w' hw' hu
    refine h.to FR DF env _ w' (by simpa using h1) hw' ?_ (h4.put hdt hf (fun hc => (hu.1 hc).1) hu.2 (guard_fresh hg hf) (.inl rfl) (fun hc => (hu.1 hc).2)) h5.same
    rcases hGL with rfl | ⟨hne, hnone⟩
    · rw [(hu.1 trivial).1]
      exact h3.put hdt (hu.1 trivial).2
    · cases G with
      | nil => exact absurd rfl hne
      | cons g G => exact h3.put_new hnone u
  show wpList C.P ⟨all⟩ (post C FR DF k) (o :: rest) ⟨t, []⟩ w
  refine wpList_want ?_
  by_cases hc : condT t G
  · rw [if_pos (hw.2 hc)]
    obtain ⟨k2, k4⟩ := hy FR env t w h2 h3 h4 hc
    refine k4 _ _ fun w' k3 => ?_
    simp only [Act.put, hd]
    exact fin _ w' k3 ⟨fun _ => ⟨rfl, k2⟩, fun hn => absurd hc hn⟩
  · rw [if_neg (fun e => hc (hw.1 e))]
    simp only [Act.put, hd]
    exact fin undef w h2 ⟨fun e => absurd e hc, fun _ => rfl⟩

end Go.Proofs.Ytkbldnpifmjipaa
