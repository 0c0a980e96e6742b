/-
  Walks of iterators by hand: stretches of code walked by the framework, between calls of yield.
  Conditions: none.
-/
import Derived.Test.YtkbldnpifmjipaaIa
set_option linter.all false
namespace Go.Proofs.Ytkbldnpifmjipaa
open Go.RowKit Go.Proofs

theorem below_grown {w w' : World} (h : Below w.heap.size w w') : w.grownBy w' none := ⟨h.os, h.tape, h.output, h.size, fun k hk _ => h.block k hk⟩

/-- The frame that holds all that there is. -/
def frAll (w : World) : Frm := ⟨w.os, w.tape, w.output, fun b => w.heap[b]?⟩

theorem wok_all {V : View} {w : World} (hw : Holds V w) : WOk V (frAll w) [] V [] w :=
  ⟨rfl, rfl, rfl, fun _ _ h => h, VLe.refl V, hw, fun _ _ h => .inl h, rfl, fun i o h => by simp at h, fun i o a h => by simp at h, fun i o a h => by simp at h, fun i j o o' a _ h => by simp at h⟩

theorem wok_below {V V' : View} {w w' : World} {env : List Nat} {M : List OB} (h : WOk V (frAll w) env V' M w') : Below w.heap.size w w' := by
  have hblk : ∀ k, k < w.heap.size → w'.heap[k]? = w.heap[k]? := fun k hk => by
    have : w.heap[k]? = some w.heap[k] := by simp [hk]
    rw [this]
    exact h.frame k _ this
  refine ⟨h.os, h.tape, h.output, ?_, hblk⟩
  rcases Nat.eq_zero_or_pos w.heap.size with h0 | h0
  · omega
  · have := hblk (w.heap.size - 1) (by omega)
    have h1 : w.heap[w.heap.size - 1]? = some w.heap[w.heap.size - 1] := by simp [h0]
    rw [h1] at this
    have := (Array.getElem?_eq_some_iff.1 this).1
    omega

/-- What is known behind a stretch. -/
def Behind (nt : Nat) (V : View) (w : World) (I : Fr → View → Prop) (a : Act) (w' : World) : Prop :=
  a.defers = [] ∧ a.tmps.size = nt ∧ ∃ L' V', LOk [] [] L' a.tmps ∧ VLe V V' ∧ Holds V' w' ∧ Below w.heap.size w w' ∧ I L' V'

abbrev noEnd (P : Program) (T : List TyD) (fn : Func) (nt : Nat) (V : View) : Ctx := ⟨P, T, fn, nt, V, fun _ _ _ => False⟩
abbrev endI (I : Fr → View → Prop) : Kt := .inLoop (fun L V M => M = [] ∧ I L V)

theorem endP_no {P : Program} {T : List TyD} {fn : Func} {nt : Nat} {V : View} {FR : Frm} {e : Ending} {w : World} (h : endP (noEnd P T fn nt V) FR e w) : False := by
  obtain ⟨v, env, V', M, _, _, h⟩ := h
  exact h

theorem post_no {P : Program} {T : List TyD} {fn : Func} {nt : Nat} {V : View} {I : Fr → View → Prop} {e : Exit} {a : Act} {w w' : World}
    (h : post (noEnd P T fn nt V) (frAll w) .none [endI I] e a w') : e = .normal ∧ Behind nt V w I a w' := by
  have hb : ∀ (e : Exit), post (noEnd P T fn nt V) (frAll w) .none [] e a w' → False := fun e h => by
    have h : bodyPost P fn (endP (noEnd P T fn nt V) (frAll w)) e a w' := h
    cases e with
    | normal => obtain ⟨_, v, _, h⟩ := h; exact endP_no h
    | ret => obtain ⟨_, v, _, h⟩ := h; exact endP_no h
    | panic c => exact endP_no h.2
    | outgrown => exact endP_no h
    | exit id => exact h
    | goto t => exact h
  cases e with
  | normal =>
    have h : a.defers = [] ∧ a.tmps.size = nt ∧ ∃ env L V' M, WOk V (frAll w) env V' M w' ∧ LOk env M L a.tmps ∧ (M = [] ∧ I L V') := h
    obtain ⟨h1, h2, env, L, V', M, h3, h4, rfl, h5⟩ := h
    have he : env = [] := List.eq_nil_of_length_eq_zero (by simpa using h3.len)
    subst he
    exact ⟨rfl, h1, h2, L, V', h4, h3.le, h3.holds, wok_below h3, h5⟩
  | ret => exact (hb .ret h).elim
  | panic c => exact (hb (.panic c) h).elim
  | outgrown => exact (hb .outgrown h).elim
  | exit id => exact (hb (.exit id) h).elim
  | goto t => exact (hb (.goto t) h).elim

/-- A stretch of code. -/
theorem Exec.stretch {P : Program} {T : List TyD} {fn : Func} {nt : Nat} {V : View} {c : Code} {L : Fr} {I : Fr → View → Prop}
    (h : Exec (noEnd P T fn nt V) ⟨[.code c, endI I], L, []⟩ V) {t : Array Value} {w : World} (ht : t.size = nt) (hw : Holds V w) (hL : LOk [] [] L t) {n : Nat} {Q : Exit → Act → World → Prop}
    (hQ : ∀ a w', Behind nt V w I a w' → Q .normal a w') : c.wpIn Fence.wide n P Q ⟨t, []⟩ w := by
  have := h.to0 (k := [.code c, endI I]) rfl (FR := frAll w) (env := []) (t := t) (by exact ht) (wok_all hw) hL .none
  have h2 : c.wp P (post (noEnd P T fn nt V) (frAll w) .none [endI I]) ⟨t, []⟩ w := this
  exact Code.wpIn_mono (fun e a w' hp => by have hp2 := post_no hp; obtain ⟨rfl, hp3⟩ := hp2; exact hQ a w' hp3) (wpIn_wide.2 h2)

theorem rows_in {P : Program} {n : Nat} {row : String} {args : Array Value} {w : World} {R : Value → World → Prop} (h : Rows P row args w R) : RowsIn Fence.wide n P row args w R :=
  fun c cs _ => let ⟨v, w', r, s⟩ := h c cs; ⟨v, w', r, stepsIn_wide.2 s⟩

theorem oper_in {P : Program} {o : Oper} {n : Nat} {a : Act} {w : World} {next next' : Act → World → Prop} {Q Q' : Exit → Act → World → Prop} (h : o.wp P a w next Q)
    (hn : ∀ a w, next a w → next' a w) (hQ : ∀ e a w, Q e a w → e = .normal) : o.wpIn Fence.wide n P a w next' Q' := by
  refine ⟨fun _ _ => trivial, ?_⟩
  have hs : (o.semAt Fence.wide.round a.eval) = execOp a.eval o := Oper.semAt_none _ _
  rw [hs]
  unfold Oper.wp at h
  revert h
  generalize (execOp a.eval o).run P w = r
  intro h
  match r, h with
  | .ok (.value v) w', h => exact hn _ _ h
  | .ok .skip w', h => exact hn _ _ h
  | .ok (.defer d) w', h => exact hn _ _ h
  | .ok (.enter f args) w', h =>
    refine ⟨fun hh => by simp [Fence.wide] at hh, callsIn_wide.2 (Calls.mono h fun e w'' hr => ?_)⟩
    match e, hr with
    | .returned v, hr => exact hn _ _ hr
    | .panicked c, hr => exact absurd (hQ _ _ _ hr) (by simp)
    | .outgrown, hr => obtain ⟨a0, w0, hr⟩ := hr; exact absurd (hQ _ _ _ hr) (by simp)
  | .ok (.row row args) w', h => exact ⟨fun hh => by simp [Fence.wide] at hh, (rows_in h).mono fun v w'' hr => hn _ _ hr⟩
  | .halt (.panic v) w', h => exact absurd (hQ _ _ _ h) (by simp)

theorem wpListIn_pre {P : Program} {ops : Array Oper} {n : Nat} {Q Q' : Exit → Act → World → Prop} {rest : List Oper} (hQ : ∀ e a w, Q e a w → e = .normal) (hn : ∀ a w, Q .normal a w → wpListIn Fence.wide n P ops Q' rest a w) :
    ∀ (pre : List Oper) (a : Act) (w : World), wpList P ops Q pre a w → wpListIn Fence.wide n P ops Q' (pre ++ rest) a w
  | [], a, w, h => hn a w h
  | o :: pre, a, w, h => by
    simp only [List.cons_append, wpListIn]
    simp only [wpList] at h
    split at h
    · rename_i hw
      rw [if_pos hw]
      rcases h with h | ⟨_, a0, w0, h⟩
      · exact oper_in h (fun a w h => wpListIn_pre hQ hn pre a w h) hQ
      · exact absurd (hQ _ _ _ h) (by simp)
    · rename_i hw
      rw [if_neg hw]
      exact ⟨fun _ _ => trivial, wpListIn_pre hQ hn pre _ w h⟩

/-- The head of a region. -/
theorem Exec.head {P : Program} {T : List TyD} {fn : Func} {nt : Nat} {V : View} {pre all rest : List Oper} {id : Nat} {L : Fr} {I : Fr → View → Prop}
    (h : Exec (noEnd P T fn nt V) ⟨[.ops pre all [], endI I], L, []⟩ V) {t : Array Value} {w : World} (ht : t.size = nt) (hw : Holds V w) (hL : LOk [] [] L t) {n : Nat} {Q : Exit → Act → World → Prop} (ha : all = pre ++ rest)
    (hQ : ∀ a w', Behind nt V w I a w' → wpListIn Fence.wide n P ⟨all⟩ Q rest a w') : (Code.region id ⟨all⟩ false).wpIn Fence.wide n P Q ⟨t, []⟩ w := by
  have := h.to (frAll w) .none [] t w ht (wok_all hw) hL (ROk.nil [] _ t) trivial
  have h2 : wpList P ⟨all⟩ (post (noEnd P T fn nt V) (frAll w) .none [endI I]) pre ⟨t, []⟩ w := this
  refine wpIn_region_list ?_
  show wpListIn Fence.wide n P ⟨all⟩ Q all ⟨t, []⟩ w
  have := wpListIn_pre (n := n) (rest := rest) (Q' := Q) (fun e a w h => (post_no h).1) (fun a w' h => hQ a w' (post_no h).2) pre _ _ h2
  rwa [← ha] at this

theorem lok_args (args : List Value) (k : Nat) : LOk [] [] (argFr 0 args) (⟨args⟩ ++ Array.replicate k undef) := by
  intro s x hx
  obtain ⟨v, rfl, _, h2⟩ := argFr_look args 0 s x hx
  refine ⟨?_, trivial⟩
  have hs : s < args.length := (List.getElem?_eq_some_iff.1 h2).1
  rw [Array.getElem?_append]
  simpa [hs, den] using h2

theorem holds_below {V : View} {w w' : World} (h : Holds V w) (hb : Below w.heap.size w w') : Holds V w' := fun a x hx => by
  have h1 := h a x hx
  have hlt : a.block < w.heap.size := by
    refine Nat.lt_of_not_le fun hn => ?_
    have : w.heap[a.block]? = none := by simp; omega
    simp [World.cell?, this] at h1
  rw [World.cell?_of_block (hb.block _ hlt)]; exact h1

/-- The state of an iterator between two steps: what has been given is pre. -/
structure ItSt (V : View) (w0 : World) (J : List Int → World → Prop) (nt : Nat) (L : Fr) (pre : List Int) (a : Act) (w : World) : Prop where
  df : a.defers = []
  sz : a.tmps.size = nt
  lk : LOk [] [] L a.tmps
  hv : Holds V w
  bl : Below w0.heap.size w0 w
  j : J pre w

section
variable {P : Program} {T : List TyD} {fn : Func} {V : View} {w0 : World} {J : List Int → World → Prop} {nt B n : Nat} {L : Fr} {pre : List Int} {a : Act} {w : World} {I : Fr → View → Prop} {Q : Exit → Act → World → Prop}

theorem ItSt.behind (h : ItSt V w0 J nt L pre a w) (hJ : AbidesFrom B J) {a' : Act} {w' : World} (hb : Behind nt V w I a' w') : ∃ L' V', I L' V' ∧ VLe V V' ∧ ItSt V w0 J nt L' pre a' w' := by
  obtain ⟨h1, h2, L', V', h3, h4, h5, h6, h7⟩ := hb
  exact ⟨L', V', h7, h4, h1, h2, h3, fun a x hx => h5 a x (h4 a x hx), h.bl.trans (h6.mono h.bl.size), hJ pre w w' none h.j (below_grown h6) (fun _ e => by cases e)⟩

theorem ItSt.stretch (h : ItSt V w0 J nt L pre a w) (hJ : AbidesFrom B J) (I : Fr → View → Prop) {c : Code} (hE : Exec (noEnd P T fn nt V) ⟨[.code c, endI I], L, []⟩ V)
    (hQ : ∀ L' V' a' w', I L' V' → VLe V V' → ItSt V w0 J nt L' pre a' w' → Q .normal a' w') : c.wpIn Fence.wide n P Q a w := by
  obtain ⟨t, d⟩ := a
  have hd : d = [] := h.df
  subst hd
  exact Exec.stretch hE h.sz h.hv h.lk (fun a' w' hb => by obtain ⟨L', V', h1, h2, h3⟩ := h.behind hJ hb; exact hQ L' V' a' w' h1 h2 h3)

theorem ItSt.head (h : ItSt V w0 J nt L pre a w) (hJ : AbidesFrom B J) (I : Fr → View → Prop) {ops all rest : List Oper} {id : Nat} (hE : Exec (noEnd P T fn nt V) ⟨[.ops ops all [], endI I], L, []⟩ V) (ha : all = ops ++ rest)
    (hQ : ∀ L' V' a' w', I L' V' → VLe V V' → ItSt V w0 J nt L' pre a' w' → wpListIn Fence.wide n P ⟨all⟩ Q rest a' w') : (Code.region id ⟨all⟩ false).wpIn Fence.wide n P Q a w := by
  obtain ⟨t, d⟩ := a
  have hd : d = [] := h.df
  subst hd
  exact Exec.head hE h.sz h.hv h.lk ha (fun a' w' hb => by obtain ⟨L', V', h1, h2, h3⟩ := h.behind hJ hb; exact hQ L' V' a' w' h1 h2 h3)

theorem ItSt.ops (h : ItSt V w0 J nt L pre a w) (hJ : AbidesFrom B J) (I : Fr → View → Prop) {ops all : List Oper} (hE : Exec (noEnd P T fn nt V) ⟨[.ops ops all [], endI I], L, []⟩ V)
    (hQ : ∀ L' V' a' w', I L' V' → VLe V V' → ItSt V w0 J nt L' pre a' w' → Q .normal a' w') : wpListIn Fence.wide n P ⟨all⟩ Q ops a w := by
  obtain ⟨t, d⟩ := a
  have hd : d = [] := h.df
  subst hd
  have := hE.to (frAll w) .none [] t w h.sz (wok_all h.hv) h.lk (ROk.nil [] _ t) trivial
  have h2 : wpList P ⟨all⟩ (post (noEnd P T fn nt V) (frAll w) .none [endI I]) ops ⟨t, []⟩ w := this
  have := wpListIn_pre (n := n) (rest := []) (Q' := Q) (fun e a w h => (post_no h).1) (fun a w' hp => by
    obtain ⟨L', V', h1, h2, h3⟩ := h.behind hJ (post_no hp).2; exact wpListIn_nil (hQ L' V' a w' h1 h2 h3)) ops _ _ h2
  rwa [List.append_nil] at this

theorem ItSt.eval (h : ItSt V w0 J nt L pre a w) {s : Nat} {x : Value} (hs : lookL L s = some (.v x)) : a.eval (.tmp s) = x := by
  have h1 := (h.lk s (.v x) hs).1
  have h1 : a.tmps[s]? = some x := h1
  simp [Act.eval, Array.getD_eq_getD_getElem?, h1]

/-- A CALL OF yield, and what lies behind it. -/
theorem ItSt.yield (h : ItSt V w0 J nt L pre a w) {l : Nat} {x : Int} {d g ar : Nat} {rest : List Oper} {all : Array Oper} {o : Oper} {ts : Array TypeId}
    (ho : o.op = .call ⟨.value (.tmp g), #[.tmp ar], ts⟩) (hd : o.dst = some d) (hg : o.guard = none) (hdt : d < nt)
    (h1 : lookL L g = some (.v (.func (.yield l) #[] #[]))) (h2 : lookL L ar = some (.v (.int .i64 x)))
    (hY : YieldAt Fence.wide 0 P l #[encZ x] w fun e W' => e = .returned (.bool true) ∧ J (pre ++ [x]) W' ∧ Below w0.heap.size w0 W') (hw0 : Holds V w0)
    (hQ : ∀ a' w', ItSt V w0 J nt ((d, .v (.bool true)) :: L) (pre ++ [x]) a' w' → wpListIn Fence.wide 0 P all Q rest a' w') : wpListIn Fence.wide 0 P all Q (o :: rest) a w := by
  obtain ⟨f1, f2, f3, f4, hy, hR⟩ := hY
  refine wpListIn_plain hg (fun K hK => ?_)
  refine ⟨fun _ _ => trivial, ?_⟩
  have hs : (o.semAt Fence.wide.round a.eval) = execOp a.eval o := Oper.semAt_none _ _
  rw [hs]
  have he1 : a.tmps[g]? = some (.func (.yield l) #[] #[]) := (h.lk g _ h1).1
  have he2 : a.tmps[ar]? = some (.int .i64 x) := (h.lk ar _ h2).1
  have hrun : (execOp a.eval o).run P w = .ok (.round l f1 f2 f3 f4) w := by
    simp only [execOp, ho]
    simp [go_sem, he1, he2, resolve, invoke]
    exact hy
  rw [hrun, Oper.uponIn_round]
  refine ⟨fun hh => by simp [Fence.wide] at hh, hR.mono ?_⟩
  rintro e W' ⟨rfl, hj, hb⟩
  refine hK _ _ (hQ _ _ ⟨?_, ?_, ?_, holds_below hw0 hb, hb, hj⟩)
  · simp [Act.put, hd, h.df]
  · simp [Act.put, hd, h.sz]
  · have := h.lk.put (x := .v (.bool true)) (d := d) (by rw [h.sz]; exact hdt) trivial
    simpa [Act.put, hd, den] using this
end

end Go.Proofs.Ytkbldnpifmjipaa
