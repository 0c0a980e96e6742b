/-
  A FRAMEWORK FOR PROOFS ABOUT CALLS (part k): regions whose order is drawn, step by step.
  Conditions: the table of types is the program's (TOk).
-/
import Derived.Test.YtkbldnpifmjipaaFg
import Derived.Scope
set_option linter.all false
namespace Go.Proofs.Ytkbldnpifmjipaa

theorem Exec.of {C : Ctx} {s : St} {V : View} (h : ∀ FR DF env t w, t.size = C.nt → WOk C.V0 FR env V s.M w → LOk env s.M s.L t → ROk env s.M (hdR s.k) t → DOk DF env V s.M s.k → post C FR DF s.k .normal ⟨t, []⟩ w) : Exec C s V := by
  unfold Exec; exact h

theorem Exec.to {C : Ctx} {s : St} {V : View} (h : Exec C s V) : ∀ FR DF env t w, t.size = C.nt → WOk C.V0 FR env V s.M w → LOk env s.M s.L t → ROk env s.M (hdR s.k) t → DOk DF env V s.M s.k → post C FR DF s.k .normal ⟨t, []⟩ w := by
  unfold Exec at h; exact h

theorem ROk.nil (env : List Nat) (M : List OB) (t : Array Value) : ROk env M [] t := fun s e h => by simp [lookR] at h

theorem noOps_hd {k : List Kt} (hk : noOps k = true) : hdR k = [] := by
  unfold noOps at hk
  split at hk
  · simp at hk
  · simp at hk
  · rename_i h1 h2
    unfold hdR
    split
    · exact absurd rfl (h1 _ _ _ _)
    · exact absurd rfl (h2 _ _)
    · rfl

theorem noOps_D {k : List Kt} (hk : noOps k = true) (DF : DFr) (env : List Nat) (V : View) (M : List OB) : DOk DF env V M k := by
  unfold noOps at hk
  split at hk
  · simp at hk
  · simp at hk
  · rename_i h1 h2
    unfold DOk
    split
    · exact absurd rfl (h2 _ _)
    · exact absurd rfl (h1 _ _ _ _)
    · trivial

/-- What stands at the head is no operation: nothing is known of a region's own slots. -/
theorem Exec.to0 {C : Ctx} {k : List Kt} {L : Fr} {M : List OB} {V : View} (hk : noOps k = true) (h : Exec C ⟨k, L, M⟩ V) {FR env t w} (h1 : t.size = C.nt) (h2 : WOk C.V0 FR env V M w) (h3 : LOk env M L t) (DF : DFr) :
    post C FR DF k .normal ⟨t, []⟩ w := h.to FR DF env t w h1 h2 h3 (by rw [noOps_hd hk]; exact ROk.nil env _ t) (noOps_D hk DF env V M)

theorem rdM_app (mask : List Nat) : ∀ (i n : Nat) (M q : List OB), n ≤ M.length → rdM mask i n (M ++ q) = rdM mask i n M
  | _, 0, M, q, _ => by cases M <;> cases q <;> simp [rdM]
  | i, n + 1, [], q, h => by simp at h
  | i, n + 1, a :: M, q, h => by
    have ih := rdM_app mask (i + 1) n M q (by simpa using h)
    simp only [List.cons_append, rdM, ih]

theorem rdM_set (mask : List Nat) (b : OB) : ∀ (n j : Nat) (i : Nat) (M : List OB), (inL (i + j) mask = true ∨ n ≤ j) → rdM mask i n (M.set j b) = rdM mask i n M
  | 0, j, i, M, _ => by cases M <;> cases j <;> simp [rdM]
  | n + 1, j, i, [], _ => by simp
  | n + 1, 0, i, a :: M, h => by
    rcases h with h | h
    · rw [Nat.add_zero] at h
      simp only [List.set_cons_zero, rdM, h]
    · omega
  | n + 1, j + 1, i, a :: M, h => by
    have ih := rdM_set mask b n j (i + 1) M (by
      rcases h with h | h
      · left; rw [show i + 1 + j = i + (j + 1) by omega]; exact h
      · right; omega)
    simp only [List.set_cons_succ, rdM, ih]

theorem rdM_get (mask : List Nat) : ∀ (i n : Nat) (M : List OB) (j : Nat) (o : OB), (rdM mask i n M)[j]? = some o → j < n ∧ (o ≠ .gone → M[j]? = some o)
  | _, 0, M, j, o, h => by cases M <;> simp [rdM] at h
  | i, n + 1, [], j, o, h => by simp [rdM] at h
  | i, n + 1, a :: M, 0, o, h => by
    simp only [rdM] at h
    split at h
    · simp only [List.getElem?_cons_zero, Option.some.injEq] at h
      exact ⟨by omega, fun hn => absurd h.symm hn⟩
    · simp only [List.getElem?_cons_zero, Option.some.injEq] at h
      exact ⟨by omega, fun _ => by simp [h]⟩
  | i, n + 1, a :: M, j + 1, o, h => by
    simp only [rdM] at h
    split at h
    all_goals
      simp only [List.getElem?_cons_succ] at h
      obtain ⟨h1, h2⟩ := rdM_get mask (i + 1) n M j o h
      exact ⟨by omega, fun hn => by simpa using h2 hn⟩

theorem DOk0.grow {DF : DFr} {D : Draw} {env env' : List Nat} {V V' : View} {M M' : List OB} (h : DOk0 DF D env V M) (he : ∃ r, env' = env ++ r) (hv : VLe V V') (hm : ∃ r, M' = M ++ r) : DOk0 DF D env' V' M' := by
  obtain ⟨r, rfl⟩ := he
  obtain ⟨q, rfl⟩ := hm
  obtain ⟨r0, hr0⟩ := h.pre
  refine ⟨⟨r0 ++ r, by rw [hr0, List.append_assoc]⟩, h.len, by have := h.lenM; simp; omega, h.v, h.vle.trans hv, h.ok, fun hn => ?_, h.plan⟩
  rw [rdM_app _ _ _ _ _ h.lenM]
  exact h.mem hn

theorem DOk.grow {DF : DFr} {env env' : List Nat} {V V' : View} {M M' : List OB} (he : ∃ r, env' = env ++ r) (hv : VLe V V') (hm : ∃ r, M' = M ++ r) : ∀ {k : List Kt}, DOk DF env V M k → DOk DF env' V' M' k
  | .draw D :: _, h => DOk0.grow h he hv hm
  | .ops _ _ _ :: .draw D :: _, h => DOk0.grow h he hv hm
  | [], h => trivial
  | .code _ :: _, h => trivial
  | .inBlock _ :: _, h => trivial
  | .inLoop _ :: _, h => trivial
  | [.ops _ _ _], h => trivial
  | .ops _ _ _ :: .code _ :: _, h => trivial
  | .ops _ _ _ :: .inBlock _ :: _, h => trivial
  | .ops _ _ _ :: .inLoop _ :: _, h => trivial
  | .ops _ _ _ :: .ops _ _ _ :: _, h => trivial

theorem DOk.write {DF : DFr} {env : List Nat} {V : View} {M : List OB} {i : Nat} {b : OB} {rest all : List Oper} {lr : List REnt} : ∀ {k : List Kt}, wrOk i k = true → DOk DF env V M (.ops rest all lr :: k) → DOk DF env V (M.set i b) (.ops rest all lr :: k)
  | .draw D :: _, hn, h => by
    have h : DOk0 DF D env V M := h
    refine (⟨h.pre, h.len, by simpa using h.lenM, h.v, h.vle, h.ok, fun hu => ?_, h.plan⟩ : DOk0 DF D env V (M.set i b))
    rw [rdM_set]
    · exact h.mem hu
    · simp only [wrOk, hu] at hn
      split at hn
      · rename_i hi; exact .inl (by simpa using hi)
      · exact .inr (by simpa using Nat.le_of_ble_eq_true hn)
  | [], _, _ => trivial
  | .code _ :: _, _, _ => trivial
  | .inBlock _ :: _, _, _ => trivial
  | .inLoop _ :: _, _, _ => trivial
  | .ops _ _ _ :: _, _, _ => trivial

/-- The operations' list and what they yielded play no part in it. -/
theorem DOk.same {DF : DFr} {env : List Nat} {V : View} {M : List OB} {rest rest' all all' : List Oper} {lr lr' : List REnt} : ∀ {k : List Kt}, DOk DF env V M (.ops rest all lr :: k) → DOk DF env V M (.ops rest' all' lr' :: k)
  | .draw _ :: _, h => h
  | [], _ => trivial
  | .code _ :: _, _ => trivial
  | .inBlock _ :: _, _ => trivial
  | .inLoop _ :: _, _ => trivial
  | .ops _ _ _ :: _, _ => trivial

theorem DOk.ops0 {DF : DFr} {env : List Nat} {V : View} {M : List OB} {rest all : List Oper} {lr : List REnt} : ∀ {k : List Kt}, noOps k = true → DOk DF env V M (.ops rest all lr :: k)
  | .draw _ :: _, h => by simp [noOps] at h
  | [], _ => trivial
  | .code _ :: _, _ => trivial
  | .inBlock _ :: _, _ => trivial
  | .inLoop _ :: _, _ => trivial
  | .ops _ _ _ :: _, _ => trivial

theorem toK_sound {C : Ctx} {k : List Kt} {L : Fr} {M : List OB} {s' : St} {V : View} (hs : toK k L M = some s') (h : Exec C s' V) {FR env t w} (h1 : t.size = C.nt) (h2 : WOk C.V0 FR env V M w) (h3 : LOk env M L t) (DF : DFr) :
    post C FR DF k .normal ⟨t, []⟩ w := by
  unfold toK at hs
  split at hs
  · rename_i hk
    simp only [Option.some.injEq] at hs; subst hs
    exact h.to0 hk h1 h2 h3 DF
  · simp at hs


/-! ### Lists -/

theorem lenL_eq {α : Type} : ∀ l : List α, lenL l = l.length
  | [] => rfl
  | a :: l => by simp [lenL, lenL_eq l]

theorem fals_eq : ∀ l : List Oper, (⟨fals l⟩ : Array Bool) = Array.replicate l.length false := by
  intro l
  apply Array.ext'
  rw [Array.toList_replicate]
  show fals l = List.replicate l.length false
  induction l with
  | nil => rfl
  | cons a l ih => simp [fals, ih, List.replicate_succ]

theorem inL_iff {i : Nat} : ∀ {l : List Nat}, inL i l = true ↔ i ∈ l
  | [] => by simp [inL]
  | a :: l => by
    unfold inL
    split
    · rename_i h; simp [Nat.eq_of_beq_eq_true h]
    · rename_i h
      have := Nat.ne_of_beq_eq_false h
      rw [inL_iff (l := l)]
      simp [Ne.symm this]

theorem noneUp_iff {listed : List Bool} : ∀ {ends : List Nat}, noneUp ends listed = true ↔ ∀ e ∈ ends, (⟨listed⟩ : Array Bool).getD e false = false
  | [] => by simp [noneUp]
  | e :: l => by
    have ih := noneUp_iff (listed := listed) (ends := l)
    unfold noneUp
    simp only [List.mem_cons, forall_eq_or_imp]
    rw [← lst_eq]
    split
    · rename_i h; simp [h]
    · rename_i h; rw [ih]; simp [h]

theorem alive_app {M : List OB} {i : Nat} (q : List OB) (h : alive M i) : alive (M ++ q) i := by
  obtain ⟨o, h1, h2⟩ := h
  exact ⟨o, by rw [List.getElem?_append, if_pos (List.getElem?_eq_some_iff.1 h1).1]; exact h1, h2⟩

theorem envAt_app {env r : List Nat} {i : Nat} (h : i < env.length) : envAt (env ++ r) i = envAt env i := by
  simp [envAt, List.getElem?_append, h]

theorem den_app {env r : List Nat} {M : List OB} (hl : env.length = M.length) : ∀ {x : SV}, x.ok M → den (env ++ r) x = den env x
  | .v _, _ => rfl
  | .ptr _ _, h => by simp only [den, envAt_app (hl ▸ alive_lt h)]
  | .slc _ _ _ _, h => by simp only [den, envAt_app (hl ▸ alive_lt h)]
  | .el _ _, _ => rfl

/-! ### What a region may rely on while it reads -/

theorem SD_of {V0 V : View} {FR : Frm} {DF : DFr} {D : Draw} {env : List Nat} {M : List OB} {w : World} (h : WOk V0 FR env V M w) (hD : DOk0 DF D env V M) (hn : noneUp D.ends D.listed = true) : SD DF w := by
  obtain ⟨r, hr⟩ := hD.pre
  have hq := hD.mem hn
  refine ⟨fun a x hx => h.holds a x (hD.vle a x hx), fun i cs ty hi => ?_, fun i x cs e sz hi => ?_⟩
  case refine_2 =>
    rw [hq] at hi
    exact h.sat i _ ((rdM_get _ _ _ _ _ _ hi).2 (by simp))
  obtain ⟨M1, hl1, hok⟩ := hD.ok
  have hi' := hi
  rw [hq] at hi'
  obtain ⟨hlt, hM⟩ := rdM_get _ _ _ _ _ _ hi'
  have := (h.sat i (.blk cs ty) (hM (by simp))).1
  rw [hr, envAt_app (by rw [hD.len]; exact hlt)] at this
  rw [this]
  congr 3
  exact List.map_congr_left fun x hx => den_app (hD.len.trans hl1.symm) (hok i cs ty hi x hx)

theorem SF_of {V0 V : View} {FR : Frm} {DF : DFr} {D : Draw} {env : List Nat} {M : List OB} {w : World} (h : WOk V0 FR env V M w) (hD : DOk0 DF D env V M) : SF D.ends (SD DF) ⟨D.listed⟩ w :=
  fun hall => SD_of h hD (noneUp_iff.2 hall)

theorem SD.rd {DF : DFr} {D : Draw} {env : List Nat} {V : View} {M : List OB} {w : World} (h : SD DF w) (hD : DOk0 DF D env V M) (hn : noneUp D.ends D.listed = true)
    (hc : ∀ (i : Nat) (cs : List SV) (ty : Nat), M[i]? = some (.blk cs ty) → ∀ x ∈ cs, x.ok M) : Holds D.V w ∧ RdM env M (rdM D.mask 0 D.n0 M) w := by
  obtain ⟨r, hr⟩ := hD.pre
  have hq := hD.mem hn
  obtain ⟨M1, hl1, hok⟩ := hD.ok
  refine ⟨hD.v ▸ h.1, fun i cs ty hi => ?_, fun i x cs e sz hi => h.2.2 i x cs e sz (by rw [hq]; exact hi)⟩
  obtain ⟨hlt, hM⟩ := rdM_get _ _ _ _ _ _ hi
  rw [← hq] at hi
  have h1 := h.2.1 i cs ty hi
  refine ⟨?_, hc i cs ty (hM (by simp))⟩
  rw [hr, envAt_app (by rw [hD.len]; exact hlt), h1]
  congr 3
  exact List.map_congr_left fun x hx => (den_app (hD.len.trans hl1.symm) (hok i cs ty hi x hx)).symm

theorem post_panic {C : Ctx} {FR : Frm} {c : List PanicEntry} {a : Act} {w : World} : ∀ (k : List Kt) (DF : DFr), ¬ post C FR DF k (.panic c) a w
  | [], _ => fun h => by
    obtain ⟨_, v, _, V, _, h1, _⟩ := h
    simp at h1
  | .draw _ :: k, _ => post_panic k _
  | .code _ :: k, _ => post_panic k _
  | .inBlock _ :: k, _ => post_panic k _
  | .inLoop _ :: k, _ => post_panic k _
  | .ops _ _ _ :: k, _ => post_panic k _

/-- Only the other ways out of it ask for the operation's own exits. -/
theorem wp_exits {P : Program} {o : Oper} {a : Act} {w : World} {K : Act → World → Prop} {Q Q' : Exit → Act → World → Prop} (hQ : ∀ e a w, e ≠ .normal → Q e a w → Q' e a w) (h : o.wp P a w K Q) : o.wp P a w K Q' := by
  have hl : LetsOut Q → LetsOut Q' := fun ⟨a, w, k⟩ => ⟨a, w, hQ _ _ _ (by simp) k⟩
  unfold Oper.wp at *
  generalize (execOp a.eval o).run P w = r at *
  cases r with
  | ok n w' =>
    cases n <;> simp only [Oper.upon] at h ⊢ <;> first
      | exact h
      | exact Calls.mono h (fun e w'' he => by cases e <;> first | exact he | exact hQ _ _ _ (by simp) he | exact hl he)
  | halt x w' => cases x <;> simp only [Oper.upon] at h ⊢ <;> first | exact hQ _ _ _ (by simp) h | exact h

section
variable {C : Ctx}

theorem draw_relr {D : Draw} {lr : List REnt} {all : List Oper} {k : List Kt} {L : Fr} {M : List OB} {V : View} (h : Exec C ⟨.draw ⟨D.all, D.listed, D.n, D.ends, D.n0, D.mask, D.V, D.plan, lr⟩ :: k, L, M⟩ V) :
    Exec C ⟨.ops [] all lr :: .draw D :: k, L, M⟩ V := by
  refine Exec.of fun FR DF env t w h1 h2 h3 h4 h5 => ?_
  have h5 : DOk0 DF D env V M := h5
  exact h.to FR DF env t w h1 h2 h3 h4 (⟨h5.pre, h5.len, h5.lenM, h5.v, h5.vle, h5.ok, h5.mem, h5.plan⟩ : DOk0 DF ⟨D.all, D.listed, D.n, D.ends, D.n0, D.mask, D.V, D.plan, lr⟩ env V M)

/-- THE BEGINNING of a region whose order is drawn: with a plan for it. -/
theorem Exec.draws (hT : TOk C.P C.T) (plan : List (Nat × Bool)) {id : Nat} {ops : List Oper} {es ms : List Nat} {k : List Kt} {L : Fr} {M : List OB} {V : View} (he : endsOf L ops 0 ops = (es, ms))
    (hp : planOk ops es (lenL ops) (fals ops) plan = true) (h : Exec C ⟨.draw ⟨ops, fals ops, lenL ops, es, lenL M, ms, V, plan, []⟩ :: k, L, M⟩ V) :
    Exec C ⟨.code (.region id ⟨ops⟩ true) :: k, L, M⟩ V := by
  refine Exec.of fun FR DF env t w h1 h2 h3 h4 h5 => ?_
  have hW : WOk C.V0 FR env V M { w with drawn := w.drawn + 1 } := ⟨h2.os, h2.tape, h2.output, h2.frame, h2.le, h2.holds, h2.fresh, h2.len, h2.sat, h2.apartV, h2.apartF, h2.apart⟩
  have := h.to FR ⟨env, V, rdM ms 0 (lenL M) M⟩ env t { w with drawn := w.drawn + 1 } h1 hW h3 (ROk.nil env _ t)
    (⟨⟨[], by simp⟩, h2.len.trans (lenL_eq M).symm, Nat.le_of_eq (lenL_eq M), rfl, VLe.refl V, ⟨M, (lenL_eq M).symm, fun i cs ty hi => (h2.sat i _ ((rdM_get _ _ _ _ _ _ hi).2 (by simp))).2⟩, fun _ => rfl, hp⟩ : DOk0 ⟨env, V, rdM ms 0 (lenL M) M⟩ ⟨ops, fals ops, lenL ops, es, lenL M, ms, V, plan, []⟩ env V M)
  refine wp_region_any hT.2 ?_
  have h6 := wpAny_of_G _ _ _ _ this.2
  rw [lenL_eq, fals_eq] at h6
  exact h6

/-- The same; the ends and what is left out are told. -/
theorem Exec.drawsE (hT : TOk C.P C.T) (es ms : List Nat) (plan : List (Nat × Bool)) {id : Nat} {ops : List Oper} {k : List Kt} {L : Fr} {M : List OB} {V : View}
    (hp : planOk ops es (lenL ops) (fals ops) plan = true) (h : Exec C ⟨.draw ⟨ops, fals ops, lenL ops, es, lenL M, ms, V, plan, []⟩ :: k, L, M⟩ V) :
    Exec C ⟨.code (.region id ⟨ops⟩ true) :: k, L, M⟩ V := by
  refine Exec.of fun FR DF env t w h1 h2 h3 h4 h5 => ?_
  have hW : WOk C.V0 FR env V M { w with drawn := w.drawn + 1 } := ⟨h2.os, h2.tape, h2.output, h2.frame, h2.le, h2.holds, h2.fresh, h2.len, h2.sat, h2.apartV, h2.apartF, h2.apart⟩
  have := h.to FR ⟨env, V, rdM ms 0 (lenL M) M⟩ env t { w with drawn := w.drawn + 1 } h1 hW h3 (ROk.nil env _ t)
    (⟨⟨[], by simp⟩, h2.len.trans (lenL_eq M).symm, Nat.le_of_eq (lenL_eq M), rfl, VLe.refl V, ⟨M, (lenL_eq M).symm, fun i cs ty hi => (h2.sat i _ ((rdM_get _ _ _ _ _ _ hi).2 (by simp))).2⟩, fun _ => rfl, hp⟩ : DOk0 ⟨env, V, rdM ms 0 (lenL M) M⟩ ⟨ops, fals ops, lenL ops, es, lenL M, ms, V, plan, []⟩ env V M)
  refine wp_region_any hT.2 ?_
  have h6 := wpAny_of_G _ _ _ _ this.2
  rw [lenL_eq, fals_eq] at h6
  exact h6

theorem post_goto {C : Ctx} {FR : Frm} {l : Nat} {a : Act} {w : World} : ∀ (k : List Kt) (DF : DFr), ¬ post C FR DF k (.goto l) a w
  | [], _ => fun h => h
  | .draw _ :: k, _ => post_goto k _
  | .code _ :: k, _ => post_goto k _
  | .inBlock _ :: k, _ => post_goto k _
  | .inLoop _ :: k, _ => post_goto k _
  | .ops _ _ _ :: k, _ => post_goto k _

/-- A scope that nothing jumps in. -/
theorem Exec.scope {c : Code} {k : List Kt} {L : Fr} {M : List OB} {V : View} (h : Exec C ⟨.code c :: k, L, M⟩ V) : Exec C ⟨.code (.scope c) :: k, L, M⟩ V := by
  refine Exec.of fun FR DF env t w h1 h2 h3 h4 h5 => ?_
  have h6 : c.wp C.P (post C FR .none k) ⟨t, []⟩ w := h.to FR DF env t w h1 h2 h3 h4 h5
  refine wp_scope_straight (Code.wp_mono (fun e a w he => ?_) h6)
  cases e with
  | goto l => exact absurd he (post_goto k _)
  | _ => exact he

theorem Exec.label {l : Nat} {k : List Kt} {L : Fr} {M : List OB} {V : View} (h : Exec C ⟨k, L, M⟩ V) (hk : ∀ c r, k = c :: r → ∃ c', c = .code c') : Exec C ⟨.code (.label l) :: k, L, M⟩ V := by
  refine Exec.of fun FR DF env t w h1 h2 h3 h4 h5 => ?_
  refine wp_label ?_
  have hr : hdR k = [] := by
    cases k with
    | nil => rfl
    | cons c r => obtain ⟨c', rfl⟩ := hk c r rfl; rfl
  have := h.to FR .none env t w h1 h2 h3 (by show ROk env M (hdR k) t; rw [hr]; exact h4) (by
    cases k with
    | nil => exact h5
    | cons c r => obtain ⟨c', rfl⟩ := hk c r rfl; exact h5)
  exact this

/-- WHICHEVER COMES UP NEXT is carried out. -/
theorem Exec.pick {D : Draw} {n : Nat} {k : List Kt} {L : Fr} {M : List OB} {V : View} (hs : sameL D.all D.listed = true) (hn : D.n = n + 1) (hne : rdy D.listed 0 D.all ≠ [])
    (h : ∀ i ∈ rdy D.listed 0 D.all, ∀ o, nth D.all i = some o → ∃ p, planOk D.all D.ends n (setT D.listed i) p = true ∧ Exec C ⟨.ops [o] D.all D.lr :: .draw ⟨D.all, setT D.listed i, n, D.ends, D.n0, D.mask, D.V, p, D.lr⟩ :: k, L, M⟩ V) : Exec C ⟨.draw D :: k, L, M⟩ V := by
  refine Exec.of fun FR DF env t w h1 h2 h3 h4 h5 => ?_
  have h5 : DOk0 DF D env V M := h5
  refine ⟨SF_of h2 h5, ?_⟩
  rw [hn]
  refine ⟨fun hr => ?_, fun i hi => ?_⟩
  · cases hrd : rdy D.listed 0 D.all with
    | nil => exact absurd hrd hne
    | cons a l =>
      have : a ∈ Region.ready .any ⟨D.all⟩ ⟨D.listed⟩ := (ready_rdy hs).2 (by rw [hrd]; simp)
      rw [hr] at this
      simp at this
  · rw [ready_rdy hs] at hi
    obtain ⟨_, _, o, ho, _⟩ := mem_rdy.1 hi
    rw [Nat.sub_zero] at ho
    obtain ⟨p, hp, h⟩ := h i hi o (by rw [nth_eq]; exact ho)
    have hd : DOk0 DF ⟨D.all, setT D.listed i, n, D.ends, D.n0, D.mask, D.V, p, D.lr⟩ env V M := ⟨h5.pre, h5.len, h5.lenM, h5.v, h5.vle, h5.ok, fun hu => h5.mem (noneUp_iff.2 fun e he => by
      have h7 := noneUp_iff.1 hu e he
      rw [setT_eq] at h7
      cases hc : (⟨D.listed⟩ : Array Bool).getD e false with
      | false => rfl
      | true => rw [getD_set_true hc] at h7; simp at h7), hp⟩
    have h6 := h.to FR DF env t w h1 h2 h3 h4 hd
    have h7 : wpList C.P ⟨D.all⟩ (post C FR DF (.draw ⟨D.all, setT D.listed i, n, D.ends, D.n0, D.mask, D.V, p, D.lr⟩ :: k)) [o] ⟨t, []⟩ w := h6
    have hQ : ∀ e a w, e ≠ .normal → post C FR DF (.draw ⟨D.all, setT D.listed i, n, D.ends, D.n0, D.mask, D.V, p, D.lr⟩ :: k) e a w → post C FR .none k e a w := by
      intro e a w he hp
      cases e with
      | normal => exact absurd rfl he
      | exit id => exact hp
      | goto l => exact hp
      | ret => exact hp
      | panic c => exact hp
      | outgrown => exact hp
    rw [← setT_eq]
    unfold wpOp
    rw [show (⟨D.all⟩ : Array Oper)[i]? = some o from by simpa using ho]
    simp only
    unfold wpList at h7
    by_cases hw : Region.wanted o (yielded ⟨D.all⟩ t) = true
    · rw [if_pos hw] at h7 ⊢
      rcases h7 with h7 | ⟨h7, a, w, h8⟩
      · exact .inl (wp_exits hQ h7)
      · exact .inr ⟨h7, a, w, hQ _ _ _ (by simp) h8⟩
    · rw [if_neg hw] at h7 ⊢
      exact h7

/-- The region is done. -/
theorem draw_done {D : Draw} {k : List Kt} {L : Fr} {M : List OB} {V : View} (hs : sameL D.all D.listed = true) (hr : rdy D.listed 0 D.all = []) {s' : St} (hk : toK k L M = some s') (h : Exec C s' V) : Exec C ⟨.draw D :: k, L, M⟩ V := by
  refine Exec.of fun FR DF env t w h1 h2 h3 h4 h5 => ?_
  refine ⟨SF_of h2 h5, ?_⟩
  have hready : Region.ready .any ⟨D.all⟩ ⟨D.listed⟩ = [] := by
    cases hrd : Region.ready .any ⟨D.all⟩ ⟨D.listed⟩ with
    | nil => rfl
    | cons a l =>
      have : a ∈ rdy D.listed 0 D.all := (ready_rdy hs).1 (by rw [hrd]; simp)
      rw [hr] at this
      simp at this
  have hq := toK_sound hk h h1 h2 h3 .none
  cases D.n with
  | zero => exact ⟨hready, hq⟩
  | succ n => exact ⟨fun _ => hq, fun i hi => by rw [hready] at hi; simp at hi⟩

/-- AN OPERATION THAT ONLY YIELDS A VALUE is taken first. -/
theorem Exec.float {D : Draw} {i n d : Nat} {o : Oper} {G : List (Nat × Bool)} {x : SV} {r : Option Nat} {k : List Kt} {L L' : Fr} {M : List OB} {V : View}
    {p : List (Nat × Bool)} (hDp : D.plan = (i, true) :: p) (hDn : D.n = n + 1) (ho : nth D.all i = some o) (hg : guardC D.all D.lr o.guard = some G) (hd : o.dst = some d) (hn : Nat.blt d C.nt = true) (hf : freshR d D.lr = true)
    (hL' : (G = [] ∧ L' = (d, x) :: L) ∨ (L' = L ∧ lookL L d = none))
    (hx : ∀ env t w, LOk env M L t → ROk env M D.lr t → Holds D.V w → RdM env M (rdM D.mask 0 D.n0 M) w →
      (condT t G → x.ok M) ∧ (condT t G → (execOp (⟨t, []⟩ : Act).eval o).run C.P w = .ok (.value (den env x)) w) ∧
      ∀ r0, r = some r0 → (condT t G → t[r0]? = some (den env x)) ∧ (¬ condT t G → t[r0]? = some undef) ∧ ∃ y c v, opd L D.lr y = some (c, v, some r0))
    (h : Exec C ⟨.draw ⟨D.all, setT D.listed i, n, D.ends, D.n0, D.mask, D.V, p, ⟨d, G, x, r.getD d⟩ :: D.lr⟩ :: k, L', M⟩ V) : Exec C ⟨.draw D :: k, L, M⟩ V := by
  refine Exec.of fun FR DF env t w h1 h2 h3 h4 h5 => ?_
  have h5 : DOk0 DF D env V M := h5
  have h4 : ROk env M D.lr t := h4
  have hdt : d < t.size := by rw [h1]; simpa [Nat.blt_eq] using hn
  -- the side conditions
  have hplan := h5.plan
  rw [hDp, hDn] at hplan
  simp only [planOk] at hplan
  split at hplan <;> try (simp at hplan; done)
  rename_i hh
  unfold headD at hh
  rw [ho] at hh
  simp only [hd] at hh
  split at hh <;> try (simp at hh; done)
  rename_i d' li hd' hli
  simp only [Option.some.injEq] at hd'
  subst hd'
  split at hh <;> try (simp at hh; done)
  rename_i hok
  have hi := hh
  unfold drawOk at hok
  split at hok <;> try (simp at hok; done)
  rename_i hsel hsame hfree hends
  rw [nth_eq] at ho
  obtain ⟨sh, e0, e1, e2⟩ := endsOk_sound hends
  have hup : noneUp D.ends D.listed = true := noneUp_iff.2 (fun e he => e1 e (e0 e he))
  have hrd := inL_iff.1 hi
  have hready := (ready_rdy hsame).2 hrd
  have hw := guard_sound h4 hg
  obtain ⟨f1, f2⟩ := (SD_of h2 h5 hup).rd h5 hup (fun i cs ty hi => (h2.sat i _ hi).2)
  obtain ⟨s1, s2, s3⟩ := hx env t w h3 h4 f1 f2
  have hS := SD_of h2 h5 hup
  -- the value that the slot gets
  have main : ∀ u, ((condT t G → u = den env x) ∧ (¬ condT t G → u = undef)) → YieldsIf C.P ⟨D.all⟩ (SD DF) o u ⟨t, []⟩ → post C FR DF (.draw D :: k) .normal ⟨t, []⟩ w := by
    intro u hu hy
    have hrt : r.getD d = d ∨ (r.getD d ≠ d ∧ t[r.getD d]? = some u) := by
      cases r with
      | none => exact .inl rfl
      | some r0 =>
        obtain ⟨k1, k2, y, c, v, hy⟩ := s3 r0 rfl
        obtain ⟨s, e, k3, k4⟩ := opd_root hy
        right
        simp only [Option.getD_some]
        refine ⟨by rw [← k4]; exact (freshR_look hf k3).2.1, ?_⟩
        by_cases hc : condT t G
        · rw [k1 hc, hu.1 hc]
        · rw [k2 hc, hu.2 hc]
    have hD' : DOk0 DF ⟨D.all, setT D.listed i, n, D.ends, D.n0, D.mask, D.V, p, ⟨d, G, x, r.getD d⟩ :: D.lr⟩ env V M := ⟨h5.pre, h5.len, h5.lenM, h5.v, h5.vle, h5.ok, fun _ => h5.mem hup, hplan⟩
    have hp := h.to FR DF env (t.setIfInBounds d u) w (by simpa using h1) h2 (by
      rcases hL' with ⟨rfl, rfl⟩ | ⟨rfl, hnone⟩
      · rw [hu.1 trivial]
        exact h3.put hdt (s1 trivial)
      · exact h3.put_new hnone u) (h4.put hdt hf hu.1 hu.2 (guard_fresh hg hf) hrt s1) hD'
    refine ⟨SF_of h2 h5, ?_⟩
    rw [hDn]
    refine wpAnyG_first (i := i) (oi := o) (v := u) (by simpa using ho) (fun j oj cs b hj => noSelB_sound hsel j oj cs b (by simpa using hj)) (fun c a w hq => absurd hq (post_panic k .none)) sh e0 e2 n ⟨D.listed⟩ ⟨t, []⟩ w e1 ?_ hready hy hS ?_
    · intro j oj hj hji hun hno
      have hj' : D.all[j]? = some oj := by simpa using hj
      refine freeB_sound hd hli hfree j oj (Nat.zero_le _) (by simpa using hj') hji ?_ (fun e he => hno e (by simpa using he))
      rw [lst_eq]
      have hlt : j < D.listed.length := by rw [← sameL_len hsame]; exact (List.getElem?_eq_some_iff.1 hj').1
      simp only [Array.getD_eq_getD_getElem?, List.getElem?_toArray, List.getElem?_eq_getElem hlt, Option.getD_some] at hun ⊢
      exact hun
    · have h8 := hp.2
      rw [setT_eq] at h8
      simp only [Act.put, hd]
      exact h8
  by_cases hc : condT t G
  · refine main (den env x) ⟨fun _ => rfl, fun hn => absurd hc hn⟩ (.inl ⟨hw.2 hc, fun w' hw' => ?_⟩)
    obtain ⟨g1, g2⟩ := hw'.rd h5 hup (fun i cs ty hi => (h2.sat i _ hi).2)
    exact (hx env t w' h3 h4 g1 g2).2.1 hc
  · refine main undef ⟨fun e => absurd e hc, fun _ => rfl⟩ (.inr ⟨?_, rfl⟩)
    cases hb : Region.wanted o (yielded (⟨D.all⟩ : Array Oper) t) with
    | false => rfl
    | true => exact absurd (hw.1 hb) hc

variable (hT : TOk C.P C.T)
include hT

theorem floatP_sound {all : List Oper} {listed : List Bool} {ends : List Nat} {n0 : Nat} {mask : List Nat} {V1 : View} {lr : List REnt} {n i : Nat} {p : List (Nat × Bool)} {k : List Kt} {L : Fr} {M : List OB} {V : View} {s' : St} (h : Exec C s' V)
    (hs : floatP C.T C.nt all listed ends n0 mask V1 lr n i p k L M = some s') : Exec C ⟨.draw ⟨all, listed, n + 1, ends, n0, mask, V1, (i, true) :: p, lr⟩ :: k, L, M⟩ V := by
  unfold floatP at hs
  split at hs <;> try (simp at hs; done)
  rename_i o ho
  split at hs <;> try (simp at hs; done)
  · rename_i hg
    split at hs <;> try (simp at hs; done)
    rename_i v r hv
    split at hs <;> try (simp at hs; done)
    rename_i d hd
    split at hs <;> try (simp at hs; done)
    rename_i hn hf
    have hx : ∀ env t w, LOk env M L t → ROk env M lr t → Holds V1 w → RdM env M (rdM mask 0 n0 M) w → _ := fun env t w g1 g2 _ g4 => valOf_sound (P := C.P) hT g4 (opd_sound g1 g2) (opd_plain L lr) hv
    split at hs
    · simp only [Option.some.injEq] at hs; subst hs
      exact Exec.float (D := ⟨all, listed, n + 1, ends, n0, mask, V1, (i, true) :: p, lr⟩) rfl rfl ho hg hd hn hf (.inl ⟨rfl, rfl⟩) hx h
    · simp only [Option.some.injEq] at hs; subst hs
      exact Exec.float (D := ⟨all, listed, n + 1, ends, n0, mask, V1, (i, true) :: p, lr⟩) rfl rfl ho hg hd hn hf (.inl ⟨rfl, rfl⟩) hx h
  · rename_i G hG hg
    split at hs <;> try (simp at hs; done)
    rename_i v r hv
    split at hs <;> try (simp at hs; done)
    rename_i d hd
    split at hs <;> try (simp at hs; done)
    rename_i hn hf hl
    have hx : ∀ env t w, LOk env M L t → ROk env M lr t → Holds V1 w → RdM env M (rdM mask 0 n0 M) w → _ := fun env t w g1 g2 _ g4 => valOf_sound (P := C.P) hT g4 (opd_sound g1 g2) (opd_plain L lr) hv
    split at hs
    · simp only [Option.some.injEq] at hs; subst hs
      exact Exec.float (D := ⟨all, listed, n + 1, ends, n0, mask, V1, (i, true) :: p, lr⟩) rfl rfl ho hg hd hn hf (.inr ⟨rfl, hl⟩) hx h
    · simp only [Option.some.injEq] at hs; subst hs
      exact Exec.float (D := ⟨all, listed, n + 1, ends, n0, mask, V1, (i, true) :: p, lr⟩) rfl rfl ho hg hd hn hf (.inr ⟨rfl, hl⟩) hx h

omit hT in
theorem spineP {D : Draw} {n i : Nat} {o : Oper} {p : List (Nat × Bool)} {k : List Kt} {L : Fr} {M : List OB} {V : View} (hDp : D.plan = (i, false) :: p) (hDn : D.n = n + 1) (ho : nth D.all i = some o)
    (h : Exec C ⟨.ops [o] D.all D.lr :: .draw ⟨D.all, setT D.listed i, n, D.ends, D.n0, D.mask, D.V, p, D.lr⟩ :: k, L, M⟩ V) : Exec C ⟨.draw D :: k, L, M⟩ V := by
  refine Exec.of fun FR DF env t w h1 h2 h3 h4 h5 => ?_
  have hplan := (show DOk0 DF D env V M from h5).plan
  rw [hDp, hDn] at hplan
  simp only [planOk] at hplan
  split at hplan <;> try (simp at hplan; done)
  rename_i hs hl
  have hr : rdy D.listed 0 D.all = [i] := by
    unfold loneI at hl
    split at hl
    · rename_i j hj; rw [hj, beq_nat hl]
    · simp at hl
  refine (Exec.pick hs hDn (by rw [hr]; simp) (fun j hj oj hoj => ?_)).to FR DF env t w h1 h2 h3 h4 h5
  rw [hr] at hj
  simp only [List.mem_singleton] at hj
  subst hj
  rw [ho] at hoj
  simp only [Option.some.injEq] at hoj
  subst hoj
  exact ⟨p, hplan, h⟩

theorem stepD_sound {all : List Oper} {listed : List Bool} {ends : List Nat} {n0 : Nat} {mask : List Nat} {V1 : View} {lr : List REnt} {n : Nat} {plan : List (Nat × Bool)} {k : List Kt} {L : Fr} {M : List OB} {V : View} {s' : St} (hs : stepD C.T C.nt all listed n ends n0 mask V1 plan lr k L M = some s') (h : Exec C s' V) :
    Exec C ⟨.draw ⟨all, listed, n, ends, n0, mask, V1, plan, lr⟩ :: k, L, M⟩ V := by
  unfold stepD at hs
  split at hs
  · split at hs <;> try (simp at hs; done)
    rename_i hsame hr
    exact draw_done hsame hr hs h
  · split at hs <;> try (simp at hs; done)
    exact floatP_sound hT h hs
  · split at hs <;> try (simp at hs; done)
    rename_i o ho
    simp only [Option.some.injEq] at hs; subst hs
    exact spineP (D := ⟨all, listed, _, ends, n0, mask, V1, _, lr⟩) rfl rfl ho h

end
end Go.Proofs.Ytkbldnpifmjipaa
