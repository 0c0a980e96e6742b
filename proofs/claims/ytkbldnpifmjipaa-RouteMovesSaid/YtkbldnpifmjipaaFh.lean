/-
  A FRAMEWORK FOR PROOFS ABOUT CALLS (part h): 'step' and 'run' are sound; the rules for branches, returns and loops; the entry of a call.
  Conditions: the table of types is the program's (TOk).
-/
import Derived.Test.YtkbldnpifmjipaaFk
set_option linter.all false
namespace Go.Proofs.Ytkbldnpifmjipaa

theorem wpList_want {P : Program} {ops : Array Oper} {Q : Exit → Act → World → Prop} {o : Oper} {rest : List Oper} {a : Act} {w : World}
    (h : if Region.wanted o (yielded ops a.tmps) = true then o.wp P a w (wpList P ops Q rest) Q else wpList P ops Q rest (a.put o.dst undef) w) : wpList P ops Q (o :: rest) a w := by
  unfold wpList
  split
  · rename_i hw; rw [if_pos hw] at h; exact .inl h
  · rename_i hw; rw [if_neg hw] at h; exact h

theorem wp_value {P : Program} {o : Oper} {a : Act} {w w' : World} {v : Value} {K : Act → World → Prop} {Q : Exit → Act → World → Prop}
    (h : (execOp a.eval o).run P w = .ok (.value v) w') (hk : K (a.put o.dst v) w') : o.wp P a w K Q := by
  unfold Oper.wp; rw [h]; exact hk

theorem wp_skip' {P : Program} {o : Oper} {a : Act} {w w' : World} {K : Act → World → Prop} {Q : Exit → Act → World → Prop}
    (h : (execOp a.eval o).run P w = .ok .skip w') (hk : K (a.put o.dst undef) w') : o.wp P a w K Q := by
  unfold Oper.wp; rw [h]; exact hk

theorem exitK_sound {C : Ctx} {FR : Frm} {id : Nat} {a : Act} {w : World} : ∀ {k k' : List Kt} {DF : DFr}, exitK id k = some k' → (∀ DF, post C FR DF k' .normal a w) → post C FR DF k (.exit id) a w
  | [], k', _, h, _ => by simp [exitK] at h
  | .draw _ :: k, k', _, h, hp => exitK_sound (k := k) h hp
  | .inBlock id' :: k, k', _, h, hp => by
    simp only [exitK] at h
    simp only [post, Exit.inBlock]
    split at h
    · rename_i hb
      simp only [Option.some.injEq] at h; subst h
      rw [if_pos (beq_nat hb).symm]
      exact hp _
    · rename_i hb
      rw [if_neg (fun e => beq_nat_false hb e.symm)]
      exact exitK_sound h hp
  | .code c :: k, k', _, h, hp => exitK_sound (k := k) h hp
  | .inLoop I :: k, k', _, h, hp => exitK_sound (k := k) h hp
  | .ops r a l :: k, k', _, h, hp => exitK_sound (k := k) h hp

theorem ret_sound {C : Ctx} {FR : Frm} {a : Act} {w : World} (h : bodyPost C.P C.fn (endP C FR) .ret a w) : ∀ (k : List Kt) (DF : DFr), post C FR DF k .ret a w
  | [], _ => h
  | .draw _ :: k, _ => ret_sound h k _
  | .code _ :: k, _ => ret_sound h k _
  | .inBlock _ :: k, _ => ret_sound h k _
  | .inLoop _ :: k, _ => ret_sound h k _
  | .ops _ _ _ :: k, _ => ret_sound h k _

section
variable {C : Ctx} (hT : TOk C.P C.T)
include hT

/-- One operation, whose value is known. -/
theorem Exec.val {o : Oper} {rest all : List Oper} {lr : List REnt} {k : List Kt} {L L' : Fr} {M : List OB} {V : View} {G : List (Nat × Bool)} {x : SV} {r : Option Nat} {d : Nat}
    (hg : guardC all lr o.guard = some G) (hv : valOf C.T (opd L lr) M G o.op = some (x, r)) (hd : o.dst = some d) (hn : Nat.blt d C.nt = true) (hf : freshR d lr = true)
    (hL' : (G = [] ∧ L' = (d, x) :: L) ∨ (L' = L ∧ lookL L d = none)) (h : Exec C ⟨.ops rest all (⟨d, G, x, r.getD d⟩ :: lr) :: k, L', M⟩ V) : Exec C ⟨.ops (o :: rest) all lr :: k, L, M⟩ V := by
  refine Exec.of fun FR DF env t w h1 h2 h3 h4 h5 => ?_
  have hdt : d < t.size := by rw [h1]; simpa [Nat.blt_eq] using hn
  obtain ⟨s1, s2, s3⟩ := valOf_sound hT h2.rd (opd_sound h3 h4) (opd_plain L lr) hv
  have hw := guard_sound h4 hg
  have hrd : ∀ u, ((condT t G → u = den env x) ∧ (¬ condT t G → u = undef)) → r.getD d = d ∨ (r.getD d ≠ d ∧ t[r.getD d]? = some u) := by
    intro u hu
    cases r with
    | none => exact .inl rfl
    | some r0 =>
      obtain ⟨k1, k2, y, c, v, hy⟩ := s3 r0 rfl
      obtain ⟨s, e, k3, k4⟩ := opd_root hy
      right
      simp only [Option.getD_some]
      refine ⟨by rw [← k4]; exact (freshR_look hf k3).2.1, ?_⟩
      by_cases hc : condT t G
      · rw [k1 hc, hu.1 hc]
      · rw [k2 hc, hu.2 hc]
  have fin : ∀ u, ((condT t G → u = den env x) ∧ (¬ condT t G → u = undef)) → post C FR DF (.ops rest all (⟨d, G, x, r.getD d⟩ :: lr) :: k) .normal ⟨t.setIfInBounds d u, []⟩ w := by
    intro u hu
    refine h.to FR DF env _ w (by simpa using h1) h2 ?_ (h4.put hdt hf hu.1 hu.2 (guard_fresh hg hf) (hrd u hu) s1) h5.same
    rcases hL' with ⟨rfl, rfl⟩ | ⟨rfl, hnone⟩
    · rw [hu.1 trivial]
      exact h3.put hdt (s1 trivial)
    · exact h3.put_new hnone u
  show wpList C.P ⟨all⟩ (post C FR DF k) (o :: rest) ⟨t, []⟩ w
  refine wpList_want ?_
  by_cases hc : condT t G
  · rw [if_pos (hw.2 hc)]
    refine wp_value (s2 hc) ?_
    simp only [Act.put, hd]
    exact fin (den env x) ⟨fun _ => rfl, fun hn => absurd hc hn⟩
  · rw [if_neg (fun e => hc (hw.1 e))]
    simp only [Act.put, hd]
    exact fin undef ⟨fun e => absurd e hc, fun _ => rfl⟩

/-- One operation that makes or writes memory of the call's own. -/
theorem Exec.mem {o : Oper} {rest all : List Oper} {lr : List REnt} {k : List Kt} {L : Fr} {M M' : List OB} {V : View} {x : SV} {d : Nat}
    (hg : guardC all lr o.guard = some []) (hv : memOf C.T (opd L lr) M o.op = some (some x, M')) (hd : o.dst = some d) (hn : Nat.blt d C.nt = true) (hf : freshR d lr = true)
    (h : Exec C ⟨.ops rest all (⟨d, [], x, d⟩ :: lr) :: k, (d, x) :: L, M'⟩ V) : Exec C ⟨.ops (o :: rest) all lr :: k, L, M⟩ V := by
  refine Exec.of fun FR DF env t w h1 h2 h3 h4 h5 => ?_
  have hdt : d < t.size := by rw [h1]; simpa [Nat.blt_eq] using hn
  obtain ⟨env', w', j1, j2, _, k1, k2, k3, k4, k5⟩ := memOf_sound hT h2 (opd_sound h3 h4) hv
  have hw := guard_sound h4 hg
  show wpList C.P ⟨all⟩ (post C FR DF k) (o :: rest) ⟨t, []⟩ w
  refine wpList_want ?_
  rw [if_pos (hw.2 trivial)]
  refine wp_value k5 ?_
  simp only [Act.put, hd]
  exact h.to FR DF env' (t.setIfInBounds d (den env' x)) w' (by simpa using h1) k1 ((k2 _ h3).put hdt k4)
    ((k3 _ h4).put hdt hf (fun _ => rfl) (fun hn => absurd trivial hn) rfl (.inl rfl) (fun _ => k4)) (DOk.grow j1 (VLe.refl V) (j2 (by simp)) h5.same)

theorem Exec.mem0 {o : Oper} {rest all : List Oper} {lr : List REnt} {k : List Kt} {L : Fr} {M M' : List OB} {V : View}
    (hg : guardC all lr o.guard = some []) (hv : memOf C.T (opd L lr) M o.op = some (none, M')) (hd : o.dst = none) {i : Nat} (hi : stAt (opd L lr) o.op = some i) (hk : wrOk i k = true)
    (h : Exec C ⟨.ops rest all lr :: k, L, M'⟩ V) : Exec C ⟨.ops (o :: rest) all lr :: k, L, M⟩ V := by
  refine Exec.of fun FR DF env t w h1 h2 h3 h4 h5 => ?_
  obtain ⟨env', w', j1, _, j3, k1, k2, k3, k5⟩ := memOf_sound hT h2 (opd_sound h3 h4) hv
  have hw := guard_sound h4 hg
  show wpList C.P ⟨all⟩ (post C FR DF k) (o :: rest) ⟨t, []⟩ w
  refine wpList_want ?_
  rw [if_pos (hw.2 trivial)]
  refine wp_skip' k5 ?_
  simp only [Act.put, hd]
  exact h.to FR DF env' t w' h1 k1 (k2 _ h3) (k3 _ h4) (by
    obtain ⟨i', b, q1, q2⟩ := j3 rfl
    have q3 : i = i' := Option.some.inj (hi.symm.trans q1)
    subst q3; subst q2
    exact DOk.grow (M := M.set i b) j1 (VLe.refl V) ⟨[], by simp⟩ (DOk.write (M := M) hk h5.same))

theorem stepOp_sound {o : Oper} {rest all : List Oper} {lr : List REnt} {k : List Kt} {L : Fr} {M : List OB} {V : View} {s' : St} (hs : stepOp C.T C.nt o rest all lr k L M = some s') (h : Exec C s' V) :
    Exec C ⟨.ops (o :: rest) all lr :: k, L, M⟩ V := by
  unfold stepOp at hs
  split at hs
  · simp at hs
  · rename_i hg
    split at hs
    · rename_i v r hv
      split at hs <;> try (simp at hs; done)
      rename_i d hd
      split at hs <;> try (simp at hs; done)
      rename_i hn hf
      split at hs
      · simp only [Option.some.injEq] at hs; subst hs
        exact Exec.val hT hg hv hd hn hf (.inl ⟨rfl, rfl⟩) h
      · simp only [Option.some.injEq] at hs; subst hs
        exact Exec.val hT hg hv hd hn hf (.inl ⟨rfl, rfl⟩) h
    · split at hs
      · rename_i v M' hv
        split at hs <;> try (simp at hs; done)
        rename_i d hd
        split at hs <;> try (simp at hs; done)
        rename_i hn hf
        simp only [Option.some.injEq] at hs; subst hs
        exact Exec.mem hT hg hv hd hn hf h
      · rename_i M' hv
        split at hs <;> try (simp at hs; done)
        rename_i hd hi
        split at hs <;> try (simp at hs; done)
        rename_i hk
        simp only [Option.some.injEq] at hs; subst hs
        exact Exec.mem0 hT hg hv hd hi hk h
      · simp at hs
  · rename_i G hG hg
    split at hs <;> try (simp at hs; done)
    rename_i v r hv
    split at hs <;> try (simp at hs; done)
    rename_i d hd
    split at hs <;> try (simp at hs; done)
    rename_i hn hf hl
    split at hs
    · simp only [Option.some.injEq] at hs; subst hs
      exact Exec.val hT hg hv hd hn hf (.inr ⟨rfl, hl⟩) h
    · simp only [Option.some.injEq] at hs; subst hs
      exact Exec.val hT hg hv hd hn hf (.inr ⟨rfl, hl⟩) h

theorem step_sound {s s' : St} {V : View} (hs : step C.T C.nt V s = some s') (h : Exec C s' V) : Exec C s V := by
  unfold step at hs
  split at hs
  · exact Exec.of fun FR DF env t w h1 h2 h3 _ _ => wp_skip (toK_sound hs h h1 h2 h3 _)
  · exact Exec.of fun FR DF env t w h1 h2 h3 _ _ => wp_label (toK_sound hs h h1 h2 h3 _)
  · simp only [Option.some.injEq] at hs; subst hs
    exact Exec.of fun FR DF env t w h1 h2 h3 h4 _ => wp_seq (h.to FR .none env t w h1 h2 h3 h4 trivial)
  · simp only [Option.some.injEq] at hs; subst hs
    exact Exec.of fun FR DF env t w h1 h2 h3 h4 _ => wp_block (h.to FR .none env t w h1 h2 h3 h4 trivial)
  · split at hs
    · rename_i k' hk
      exact Exec.of fun FR DF env t w h1 h2 h3 _ _ => wp_exit (exitK_sound hk (toK_sound hs h h1 h2 h3))
    · simp at hs
  · split at hs <;> try (simp at hs; done)
    rename_i hk
    simp only [Option.some.injEq] at hs; subst hs
    exact Exec.of fun FR DF env t w h1 h2 h3 h4 _ => wp_region_list (h.to FR .none env t w h1 h2 h3 (ROk.nil env _ t) (DOk.ops0 hk))
  · exact Exec.of fun FR DF env t w h1 h2 h3 _ _ => toK_sound hs h h1 h2 h3 _
  · simp only [Option.some.injEq] at hs; subst hs
    exact draw_relr (D := ⟨_, _, _, _, _, _, _, _, _⟩) h
  · exact stepD_sound hT hs h
  · exact Exec.of fun FR DF env t w h1 h2 h3 _ _ => toK_sound hs h h1 h2 h3 _
  · exact stepOp_sound hT hs h
  · simp at hs

theorem run_sound : ∀ (n : Nat) {s : St} {V : View}, Exec C (run C.T C.nt V n s) V → Exec C s V
  | 0, _, _, h => h
  | n + 1, s, V, h => by
    simp only [run] at h
    split at h
    · rename_i s' hs
      exact step_sound hT hs (run_sound n h)
    · exact h

/-- RUN: as far as the steps go by themselves. -/
theorem Exec.run (n : Nat) {s : St} {k : List Kt} {L : Fr} {M : List OB} {V : View} (hr : Go.Proofs.Ytkbldnpifmjipaa.run C.T C.nt V n s = ⟨k, L, M⟩) (h : Exec C ⟨k, L, M⟩ V) : Exec C s V :=
  run_sound hT n (by rw [hr]; exact h)

end

section
variable {C : Ctx}

/-- A branch. -/
theorem Exec.cond {c : Operand} {x y : Code} {k : List Kt} {L : Fr} {M : List OB} {V : View} {b : Bool} (hc : ev (opd L []) [] c = some (.v (.bool b)))
    (h1 : b = true → Exec C ⟨.code x :: k, L, M⟩ V) (h2 : b = false → Exec C ⟨.code y :: k, L, M⟩ V) : Exec C ⟨.code (.cond c x y) :: k, L, M⟩ V := by
  refine Exec.of fun FR DF env t w k1 k2 k3 k4 _ => ?_
  have he := ev_sound (opd_sound k3 (ROk.nil env _ t)) (G := []) trivial hc
  exact wp_cond_split he (fun hb => (h1 hb).to FR .none env t w k1 k2 k3 k4 trivial) (fun hb => (h2 hb).to FR .none env t w k1 k2 k3 k4 trivial)

theorem Exec.ifT {c : Operand} {x y : Code} {k : List Kt} {L : Fr} {M : List OB} {V : View} {b : Bool} (hc : ev (opd L []) [] c = some (.v (.bool b))) (hb : b = true)
    (h1 : Exec C ⟨.code x :: k, L, M⟩ V) : Exec C ⟨.code (.cond c x y) :: k, L, M⟩ V :=
  Exec.cond hc (fun _ => h1) (fun h => by rw [hb] at h; simp at h)

theorem Exec.ifF {c : Operand} {x y : Code} {k : List Kt} {L : Fr} {M : List OB} {V : View} {b : Bool} (hc : ev (opd L []) [] c = some (.v (.bool b))) (hb : b = false)
    (h1 : Exec C ⟨.code y :: k, L, M⟩ V) : Exec C ⟨.code (.cond c x y) :: k, L, M⟩ V :=
  Exec.cond hc (fun h => by rw [hb] at h; simp at h) (fun _ => h1)

/-- More is known than is asked: slots are dropped, the view is weaker. -/
def Sub : Fr → Fr → Prop
  | [], _ => True
  | (s, x) :: L', L => lookL L s = some x ∧ Sub L' L

theorem Sub.look {L : Fr} : ∀ {L' : Fr}, Sub L' L → ∀ s x, lookL L' s = some x → lookL L s = some x
  | [], _, s, x, h => by simp [lookL] at h
  | (n, y) :: L', hs, s, x, h => by
    rw [lookL_cons] at h
    split at h
    · rename_i he
      simp only [Option.some.injEq] at h
      subst h; subst he
      exact hs.1
    · exact Sub.look hs.2 s x h

theorem Exec.weaken {k : List Kt} {L L' : Fr} {M : List OB} {V : View} (hk : noOps k = true) (hs : Sub L' L) (h : Exec C ⟨k, L', M⟩ V) : Exec C ⟨k, L, M⟩ V :=
  Exec.of fun FR DF env t w h1 h2 h3 _ _ => h.to0 hk h1 h2 (fun s x hx => h3 s x (hs.look s x hx)) DF

/-- A loop whose measure stands in no slot. -/
theorem wp_loop_n {P : Program} {c : Code} {Q : Exit → Act → World → Prop} (J : Nat → Act → World → Prop)
    (round : ∀ n a w, J n a w → c.wp P (Exit.then (fun a' w' => ∃ m, m < n ∧ J m a' w') Q) a w) {n : Nat} {a : Act} {w : World} (h0 : J n a w) : (Code.loop c).wp P Q a w := by
  intro b k cs
  have key : ∀ n a w, J n a w → ∃ e a' w', Q e a' w' ∧ Arrives P (lone (b.at a (.code c :: .inLoop c :: k)) cs w) b k cs e a' w' := by
    intro n
    induction n using Nat.strongRecOn with
    | _ n ih =>
      intro a w hJ
      obtain ⟨e, a1, w1, hq, harr⟩ := round n a w hJ b (.inLoop c :: k) cs
      cases e with
      | normal =>
        obtain ⟨m, hlt, hJ1⟩ := hq
        obtain ⟨e2, a2, w2, hq2, harr2⟩ := ih m hlt a1 w1 hJ1
        exact ⟨e2, a2, w2, hq2, .of_steps (Steps.trans harr (.one step_inLoop)) harr2⟩
      | exit id => exact ⟨_, a1, w1, hq, .pass (x := .inLoop c) rfl (fun _ _ => .inl (by simp)) harr⟩
      | goto l => exact ⟨_, a1, w1, hq, .pass (x := .inLoop c) rfl (fun _ _ => .inl (by simp)) harr⟩
      | ret => exact ⟨_, a1, w1, hq, .pass (x := .inLoop c) rfl (fun _ _ => .inl (by simp)) harr⟩
      | panic ch => exact ⟨_, a1, w1, hq, .pass (x := .inLoop c) rfl (fun _ _ => .inl (by simp)) harr⟩
      | outgrown => exact ⟨_, a1, w1, hq, .pass (x := .inLoop c) rfl (fun _ _ => .inl (by simp)) harr⟩
  obtain ⟨e, a', w', hq, harr⟩ := key n a w h0
  exact ⟨e, a', w', hq, .of_steps (.one step_loop) harr⟩

/-- A LOOP. 'I n L V M' holds at every round's head, n falls. -/
theorem Exec.loop {c : Code} {k : List Kt} {L : Fr} {M : List OB} {V : View} (I : Nat → Fr → View → List OB → Prop)
    (h0 : ∃ n L', Sub L' L ∧ I n L' V M)
    (hr : ∀ n L V M, I n L V M → Exec C ⟨.code c :: .inLoop (fun L V M => ∃ m, m < n ∧ I m L V M) :: k, L, M⟩ V) : Exec C ⟨.code (.loop c) :: k, L, M⟩ V := by
  refine Exec.of fun FR DF env t w h1 h2 h3 _ _ => ?_
  obtain ⟨n, L', hs, hI⟩ := h0
  refine wp_loop_n (fun n a w => a.defers = [] ∧ a.tmps.size = C.nt ∧ ∃ env L V M, WOk C.V0 FR env V M w ∧ LOk env M L a.tmps ∧ I n L V M) ?_ (n := n)
    ⟨rfl, h1, env, L', V, M, h2, fun s x hx => h3 s x (hs.look s x hx), hI⟩
  rintro n ⟨t', d'⟩ w' ⟨hd, hsz, env', L1, V1, M1, k1, k2, k3⟩
  simp only at hd hsz k2
  subst hd
  have := (hr n L1 V1 M1 k3).to FR .none env' t' w' hsz k1 k2 (ROk.nil env' _ t') trivial
  refine wp_mono this fun e a2 w2 hp => ?_
  cases e with
  | normal =>
    obtain ⟨g1, g2, env2, L2, V2, M2, g3, g4, m, g5, g6⟩ := hp
    exact ⟨m, g5, g1, g2, env2, L2, V2, M2, g3, g4, g6⟩
  | exit id => exact hp
  | goto l => exact hp
  | ret => exact hp
  | panic ch => exact hp
  | outgrown => exact hp

/-- A round's end. -/
theorem Exec.round {I : Fr → View → List OB → Prop} {k : List Kt} {L : Fr} {M : List OB} {V : View} (L' : Fr) (hs : Sub L' L) (h : I L' V M) : Exec C ⟨.inLoop I :: k, L, M⟩ V :=
  Exec.of fun _ _ env _ _ h1 h2 h3 _ _ => ⟨rfl, h1, env, L', V, M, h2, fun s x hx => h3 s x (hs.look s x hx), h⟩

/-- A LOOP over states of type σ, whose frames are 'F'. -/
theorem Exec.loopS {σ : Type} {c : Code} {k : List Kt} {L : Fr} {M : List OB} {V : View} (F : σ → Fr) (Q : σ → View → List OB → Prop) (μ : σ → Nat) (s0 : σ)
    (hs : Sub (F s0) L) (h0 : Q s0 V M)
    (hr : ∀ s V M, Q s V M → Exec C ⟨.code c :: .inLoop (fun L V M => ∃ s', μ s' < μ s ∧ L = F s' ∧ Q s' V M) :: k, F s, M⟩ V) : Exec C ⟨.code (.loop c) :: k, L, M⟩ V := by
  refine Exec.loop (fun n L V M => ∃ s, n = μ s ∧ L = F s ∧ Q s V M) ⟨μ s0, F s0, hs, s0, rfl, rfl, h0⟩ ?_
  rintro n L V M ⟨s, rfl, rfl, hq⟩
  refine Exec.of fun FR DF env t w h1 h2 h3 h4 h5 => ?_
  have := (hr s V M hq).to FR DF env t w h1 h2 h3 h4 h5
  refine wp_mono this fun e a2 w2 hp => ?_
  cases e with
  | normal =>
    obtain ⟨g1, g2, env2, L2, V2, M2, g3, g4, s', g5, g6, g7⟩ := hp
    exact ⟨g1, g2, env2, L2, V2, M2, g3, g4, μ s', g5, s', rfl, g6, g7⟩
  | exit id => exact hp
  | goto l => exact hp
  | ret => exact hp
  | panic ch => exact hp
  | outgrown => exact hp

theorem Exec.roundS {σ : Type} {F : σ → Fr} {Q : σ → View → List OB → Prop} {μ : σ → Nat} {s : σ} {k : List Kt} {L : Fr} {M : List OB} {V : View} (s' : σ) (hs : Sub (F s') L) (hm : μ s' < μ s) (hq : Q s' V M) :
    Exec C ⟨.inLoop (fun L V M => ∃ s', μ s' < μ s ∧ L = F s' ∧ Q s' V M) :: k, L, M⟩ V :=
  Exec.round (F s') hs ⟨s', hm, rfl, hq⟩

/-- A LOOP that leaves view and memory alone. -/
theorem Exec.loopR {σ : Type} {c : Code} {k : List Kt} {L : Fr} {M : List OB} {V : View} (F : σ → Fr) (Q : σ → Prop) (μ : σ → Nat) (s0 : σ)
    (hs : Sub (F s0) L) (h0 : Q s0)
    (hr : ∀ s, Q s → Exec C ⟨.code c :: .inLoop (fun L V' M' => ∃ s', μ s' < μ s ∧ L = F s' ∧ V' = V ∧ M' = M ∧ Q s') :: k, F s, M⟩ V) : Exec C ⟨.code (.loop c) :: k, L, M⟩ V :=
  Exec.loopS F (fun s V' M' => V' = V ∧ M' = M ∧ Q s) μ s0 hs ⟨rfl, rfl, h0⟩ (by rintro s V' M' ⟨rfl, rfl, hq⟩; exact hr s hq)

theorem Exec.roundR {σ : Type} {F : σ → Fr} {Q : σ → Prop} {μ : σ → Nat} {s : σ} {k : List Kt} {L : Fr} {M : List OB} {V : View} (s' : σ) (hs : Sub (F s') L) (hm : μ s' < μ s) (hq : Q s') :
    Exec C ⟨.inLoop (fun L V' M' => ∃ s', μ s' < μ s ∧ L = F s' ∧ V' = V ∧ M' = M ∧ Q s') :: k, L, M⟩ V :=
  Exec.round (F s') hs ⟨s', hm, rfl, rfl, rfl, hq⟩

/-- A slot with a number: equal numbers. -/
theorem look_int {L : Fr} {s : Nat} {k : IntKind} {a b : Int} (h : lookL L s = some (.v (.int k a))) (e : a = b) : lookL L s = some (.v (.int k b)) := by rw [h, e]

theorem look_eq {L : Fr} {s : Nat} {x y : SV} (h : lookL L s = some x) (e : x = y) : lookL L s = some y := by rw [h, e]

theorem w64 {n : Int} (h : -9223372036854775808 ≤ n) (h' : n ≤ 9223372036854775807) : IntKind.i64.wrap n = n := by
  simp [IntKind.wrap_i64]
  omega

end
end Go.Proofs.Ytkbldnpifmjipaa
