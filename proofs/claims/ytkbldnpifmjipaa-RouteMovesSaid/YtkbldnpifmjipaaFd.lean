/-
  A FRAMEWORK FOR PROOFS ABOUT CALLS (part d): lemmas on frames, conditions and memory.
  Conditions: none.
-/
import Derived.Test.YtkbldnpifmjipaaFc
set_option linter.all false
namespace Go.Proofs.Ytkbldnpifmjipaa

theorem alive_lt {M : List OB} {i : Nat} (h : alive M i) : i < M.length := by
  obtain ⟨o, h1, _⟩ := h
  exact (List.getElem?_eq_some_iff.1 h1).1

theorem alive_snoc {M : List OB} {i : Nat} (b : OB) (h : alive M i) : alive (M ++ [b]) i := by
  obtain ⟨o, h1, h2⟩ := h
  exact ⟨o, by rw [List.getElem?_append, if_pos (List.getElem?_eq_some_iff.1 h1).1]; exact h1, h2⟩

theorem alive_set {M : List OB} {i j : Nat} {b : OB} (hb : b ≠ .gone) (h : alive M i) : alive (M.set j b) i := by
  have hi := alive_lt h
  obtain ⟨o, h1, h2⟩ := h
  rw [alive]
  by_cases hij : j = i
  · subst hij; exact ⟨b, by simp [hi], hb⟩
  · exact ⟨o, by rw [List.getElem?_set, if_neg hij]; exact h1, h2⟩

theorem SV.ok_mono {M M' : List OB} (h : ∀ i, alive M i → alive M' i) : ∀ {x : SV}, x.ok M → x.ok M'
  | .v _, _ => trivial
  | .ptr _ _, k => h _ k
  | .slc _ _ _ _, k => h _ k
  | .el _ _, k => k

theorem envAt_append {env : List Nat} {b i : Nat} (h : i < env.length) : envAt (env ++ [b]) i = envAt env i := by
  simp [envAt, List.getElem?_append, h]

theorem envAt_new (env : List Nat) (b : Nat) : envAt (env ++ [b]) env.length = b := by simp [envAt]

theorem den_append {env : List Nat} {M : List OB} {b : Nat} (hl : env.length = M.length) : ∀ {x : SV}, x.ok M → den (env ++ [b]) x = den env x
  | .v _, _ => rfl
  | .ptr _ _, h => by simp only [den, envAt_append (hl ▸ alive_lt h)]
  | .slc _ _ _ _, h => by simp only [den, envAt_append (hl ▸ alive_lt h)]
  | .el _ _, _ => rfl

theorem beq_nat {a b : Nat} (h : Nat.beq a b = true) : a = b := Nat.eq_of_beq_eq_true h
theorem beq_nat_false {a b : Nat} (h : Nat.beq a b = false) : a ≠ b := Nat.ne_of_beq_eq_false h

theorem beqB_eq : ∀ {a b : Bool}, beqB a b = true → a = b := by intro a b h; cases a <;> cases b <;> first | rfl | simp [beqB] at h

theorem lookL_cons (d : Nat) (x : SV) (L : Fr) (s : Nat) : lookL ((d, x) :: L) s = if d = s then some x else lookL L s := by
  simp only [lookL]
  split
  · rename_i h; rw [if_pos (beq_nat h)]
  · rename_i h; rw [if_neg (beq_nat_false h)]

theorem lookR_cons (e : REnt) (l : List REnt) (s : Nat) : lookR (e :: l) s = if e.s = s then some e else lookR l s := by
  simp only [lookR]
  split
  · rename_i h; rw [if_pos (beq_nat h)]
  · rename_i h; rw [if_neg (beq_nat_false h)]

theorem memC_sound (t : Array Value) (a : Nat × Bool) : ∀ G, memC a G = true → condT t G → t[a.1]? = some (.bool a.2)
  | [], h, _ => by simp [memC] at h
  | b :: l, h, hc => by
    simp only [memC] at h
    split at h
    · rename_i h1
      split at h
      · rename_i h2
        rw [beq_nat h1, beqB_eq h2]
        exact hc.1
      · exact memC_sound t a l h hc.2
    · exact memC_sound t a l h hc.2

theorem subC_sound (t : Array Value) (G : List (Nat × Bool)) : ∀ c, subC c G = true → condT t G → condT t c
  | [], _, _ => trivial
  | a :: l, h, hc => by
    simp only [subC] at h
    split at h
    · rename_i h1
      exact ⟨memC_sound t a G h1 hc, subC_sound t G l h hc⟩
    · simp at h

theorem put_same {t : Array Value} {d : Nat} (h : d < t.size) (u : Value) : (t.setIfInBounds d u)[d]? = some u := by
  simp [h]

theorem put_other {t : Array Value} {d s : Nat} (h : s ≠ d) (u : Value) : (t.setIfInBounds d u)[s]? = t[s]? := by
  simp [h.symm]

theorem condT_put {t : Array Value} {d : Nat} (u : Value) : ∀ {c : List (Nat × Bool)}, freshC d c = true → (condT (t.setIfInBounds d u) c ↔ condT t c)
  | [], _ => Iff.rfl
  | a :: l, h => by
    simp only [freshC] at h
    split at h
    · simp at h
    · rename_i h1
      simp only [condT, put_other (beq_nat_false h1) u, condT_put u h]

theorem freshR_look {d : Nat} : ∀ {lr : List REnt}, freshR d lr = true → ∀ {s e}, lookR lr s = some e → s ≠ d ∧ e.r ≠ d ∧ freshC d e.c = true
  | [], _, s, e, h => by simp [lookR] at h
  | a :: l, hf, s, e, h => by
    simp only [freshR] at hf
    split at hf
    · simp at hf
    · rename_i h1
      split at hf
      · simp at hf
      · rename_i h2
        split at hf
        · rename_i h3
          rw [lookR_cons] at h
          split at h
          · rename_i h4
            simp only [Option.some.injEq] at h
            subst h
            exact ⟨by rw [← h4]; exact beq_nat_false h1, beq_nat_false h2, h3⟩
          · exact freshR_look hf h
        · simp at hf

theorem LOk.put {env : List Nat} {M : List OB} {L : Fr} {t : Array Value} (h : LOk env M L t) {d : Nat} (hd : d < t.size) {x : SV} (hx : x.ok M) :
    LOk env M ((d, x) :: L) (t.setIfInBounds d (den env x)) := by
  intro s y hy
  rw [lookL_cons] at hy
  split at hy
  · rename_i h1
    simp only [Option.some.injEq] at hy
    subst hy; subst h1
    exact ⟨put_same hd _, hx⟩
  · rename_i h1
    rw [put_other (fun e => h1 e.symm)]
    exact h s y hy

theorem LOk.put_new {env : List Nat} {M : List OB} {L : Fr} {t : Array Value} (h : LOk env M L t) {d : Nat} (hd : lookL L d = none) (u : Value) :
    LOk env M L (t.setIfInBounds d u) := by
  intro s y hy
  have : s ≠ d := by intro e; subst e; rw [hd] at hy; simp at hy
  rw [put_other this]
  exact h s y hy

theorem ROk.put {env : List Nat} {M : List OB} {lr : List REnt} {t : Array Value} (h : ROk env M lr t) {d : Nat} (hd : d < t.size) (hf : freshR d lr = true) {G : List (Nat × Bool)} {x : SV} {r : Nat} {u : Value}
    (h1 : condT t G → u = den env x) (h2 : ¬ condT t G → u = undef) (hG : freshC d G = true) (hr : r = d ∨ (r ≠ d ∧ t[r]? = some u)) (hx : condT t G → x.ok M) :
    ROk env M (⟨d, G, x, r⟩ :: lr) (t.setIfInBounds d u) := by
  intro s e he
  rw [lookR_cons] at he
  split at he
  · rename_i h3
    simp only [Option.some.injEq] at he
    subst he
    simp only at h3
    subst h3
    refine ⟨fun hc => ⟨?_, hx ((condT_put u hG).1 hc)⟩, fun hc => ?_, ?_⟩
    · rw [put_same hd, h1 ((condT_put u hG).1 hc)]
    · rw [put_same hd, h2 (fun k => hc ((condT_put u hG).2 k))]
    · rcases hr with hr | ⟨hr, hv⟩
      · subst hr; rfl
      · simp only [put_other hr, put_same hd, hv]
  · obtain ⟨k1, k2, k3⟩ := freshR_look hf he
    obtain ⟨m1, m2, m3⟩ := h s e he
    rw [put_other k1, put_other k2, condT_put u k3]
    exact ⟨m1, m2, m3⟩

theorem LOk.mono {env : List Nat} {M : List OB} {L : Fr} {t : Array Value} (hl : env.length = M.length) (h : LOk env M L t) (b : Nat) (o : OB) : LOk (env ++ [b]) (M ++ [o]) L t := by
  intro s y hy
  obtain ⟨h1, h2⟩ := h s y hy
  exact ⟨by rw [den_append hl h2]; exact h1, SV.ok_mono (fun _ => alive_snoc o) h2⟩

theorem ROk.mono {env : List Nat} {M : List OB} {lr : List REnt} {t : Array Value} (hl : env.length = M.length) (h : ROk env M lr t) (b : Nat) (o : OB) : ROk (env ++ [b]) (M ++ [o]) lr t := by
  intro s e he
  obtain ⟨h1, h2, h3⟩ := h s e he
  exact ⟨fun hc => ⟨by rw [den_append hl (h1 hc).2]; exact (h1 hc).1, SV.ok_mono (fun _ => alive_snoc o) (h1 hc).2⟩, h2, h3⟩

theorem LOk.set {env : List Nat} {M : List OB} {L : Fr} {t : Array Value} (h : LOk env M L t) {i : Nat} {o : OB} (ho : o ≠ .gone) : LOk env (M.set i o) L t := fun s y hy =>
  ⟨(h s y hy).1, SV.ok_mono (fun _ => alive_set ho) (h s y hy).2⟩

theorem ROk.set {env : List Nat} {M : List OB} {lr : List REnt} {t : Array Value} (h : ROk env M lr t) {i : Nat} {o : OB} (ho : o ≠ .gone) : ROk env (M.set i o) lr t := fun s e he =>
  ⟨fun hc => ⟨((h s e he).1 hc).1, SV.ok_mono (fun _ => alive_set ho) ((h s e he).1 hc).2⟩, (h s e he).2⟩

/-! ### Operands -/

/-- The look-up tells the truth about the frame. -/
def Tells (env : List Nat) (M : List OB) (t : Array Value) (od : Look) : Prop :=
  ∀ x c v r, od x = some (c, v, r) → (condT t c → (⟨t, []⟩ : Act).eval x = den env v) ∧ (condT t c → v.ok M) ∧
    ∀ r0, r = some r0 → (condT t c → t[r0]? = some (den env v)) ∧ (¬ condT t c → t[r0]? = some undef)

theorem opd_sound {env : List Nat} {M : List OB} {L : Fr} {lr : List REnt} {t : Array Value} (hL : LOk env M L t) (hR : ROk env M lr t) : Tells env M t (opd L lr) := by
  intro x c v r h
  cases x with
  | const y => simp only [opd, Option.some.injEq, Prod.mk.injEq] at h; obtain ⟨rfl, rfl, rfl⟩ := h; exact ⟨fun _ => rfl, fun _ => trivial, fun _ h => by simp at h⟩
  | func f => simp only [opd, Option.some.injEq, Prod.mk.injEq] at h; obtain ⟨rfl, rfl, rfl⟩ := h; exact ⟨fun _ => rfl, fun _ => trivial, fun _ h => by simp at h⟩
  | global g => simp only [opd, Option.some.injEq, Prod.mk.injEq] at h; obtain ⟨rfl, rfl, rfl⟩ := h; exact ⟨fun _ => rfl, fun _ => trivial, fun _ h => by simp at h⟩
  | tmp s =>
    simp only [opd] at h
    split at h
    · rename_i e1 c1 x1 r1 he
      simp only [Option.some.injEq, Prod.mk.injEq] at h
      obtain ⟨rfl, rfl, rfl⟩ := h
      obtain ⟨h1, h2, h3⟩ := hR s _ he
      refine ⟨fun hc => ?_, fun hc => (h1 hc).2, fun r0 hr => ?_⟩
      · have := (h1 hc).1
        simp [Act.eval, this]
      · simp only [Option.some.injEq] at hr; subst hr
        simp only at h3
        rw [h3]
        exact ⟨fun hc => (h1 hc).1, h2⟩
    · split at h
      · rename_i y hy
        simp only [Option.some.injEq, Prod.mk.injEq] at h
        obtain ⟨rfl, rfl, rfl⟩ := h
        obtain ⟨h1, h2⟩ := hL s _ hy
        exact ⟨fun _ => by simp [Act.eval, h1], fun _ => h2, fun _ h => by simp at h⟩
      · simp at h

theorem opd_root {L : Fr} {lr : List REnt} {x : Operand} {c : List (Nat × Bool)} {v : SV} {r0 : Nat} (h : opd L lr x = some (c, v, some r0)) : ∃ s e, lookR lr s = some e ∧ e.r = r0 := by
  cases x with
  | const y => simp [opd] at h
  | func f => simp [opd] at h
  | global g => simp [opd] at h
  | tmp s =>
    simp only [opd] at h
    split at h
    · rename_i e1 c1 x1 r1 he
      simp only [Option.some.injEq, Prod.mk.injEq] at h
      obtain ⟨rfl, rfl, rfl⟩ := h
      exact ⟨s, _, he, rfl⟩
    · split at h <;> simp at h

theorem ev_sound {env : List Nat} {M : List OB} {t : Array Value} {od : Look} (ho : Tells env M t od) {G : List (Nat × Bool)} (hG : condT t G) {x : Operand} {v : SV}
    (h : ev od G x = some v) : (⟨t, []⟩ : Act).eval x = den env v := by
  unfold ev at h
  split at h
  · rename_i c v' r hx
    split at h
    · rename_i hs
      simp only [Option.some.injEq] at h; subst h
      exact (ho _ _ _ _ hx).1 (subC_sound t G c hs hG)
    · simp at h
  · simp at h

theorem ev_ok {env : List Nat} {M : List OB} {t : Array Value} {od : Look} (ho : Tells env M t od) {G : List (Nat × Bool)} (hG : condT t G) {x : Operand} {v : SV}
    (h : ev od G x = some v) : v.ok M := by
  unfold ev at h
  split at h
  · rename_i c v' r hx
    split at h
    · rename_i hs
      simp only [Option.some.injEq] at h; subst h
      exact (ho _ _ _ _ hx).2.1 (subC_sound t G c hs hG)
    · simp at h
  · simp at h

theorem guard_sound {env : List Nat} {M : List OB} {all : List Oper} {lr : List REnt} {t : Array Value} (hR : ROk env M lr t) {o : Oper} {G : List (Nat × Bool)} (h : guardC all lr o.guard = some G) :
    Region.wanted o (yielded ⟨all⟩ t) = true ↔ condT t G := by
  unfold Region.wanted
  cases hg : o.guard with
  | none => rw [hg] at h; simp only [guardC, Option.some.injEq] at h; subst h; simp [condT]
  | some jw =>
    obtain ⟨j, want⟩ := jw
    rw [hg] at h
    simp only [guardC] at h
    split at h
    · rename_i oj hj
      split at h
      · rename_i s hs
        split at h
        · rename_i e1 c1 x1 r1 he
          simp only [Option.some.injEq] at h
          subst h
          obtain ⟨h1, h2, h3⟩ := hR s _ he
          simp only at h1 h2 h3
          rw [nth_eq] at hj
          have hy : yielded ⟨all⟩ t j = match t[s]? with | some (.bool b) => some b | _ => none := by
            unfold yielded
            have : (⟨all⟩ : Array Oper)[j]? = some oj := by simpa using hj
            rw [this]
            simp only [Option.bind_some, hs]
            rfl
          simp only [hy, condT, h3]
          constructor
          · intro hw
            have hb : t[s]? = some (.bool want) := by
              split at hw
              · rename_i b hb; simp at hw; rw [hb, hw]
              · simp at hw
            refine ⟨hb, ?_⟩
            refine Classical.byContradiction fun hc => ?_
            rw [h2 hc] at hb
            simp [undef] at hb
          · rintro ⟨hb, _⟩
            simp [hb]
        · simp at h
      · simp at h
    · simp at h

theorem guard_fresh {all : List Oper} {lr : List REnt} {g : Option (Nat × Bool)} {G : List (Nat × Bool)} {d : Nat} (h : guardC all lr g = some G) (hf : freshR d lr = true) : freshC d G = true := by
  cases g with
  | none => simp only [guardC, Option.some.injEq] at h; subst h; rfl
  | some jw =>
    obtain ⟨j, want⟩ := jw
    simp only [guardC] at h
    split at h
    · split at h
      · split at h
        · rename_i e1 c1 x1 r1 he
          simp only [Option.some.injEq] at h
          subst h
          obtain ⟨k1, k2, k3⟩ := freshR_look hf he
          simp only at k2 k3
          simp only [freshC]
          split
          · rename_i hb; exact absurd (beq_nat hb) k2
          · exact k3
        · simp at h
      · simp at h
    · simp at h

/-! ### Lists of values -/

theorem vals_sound {env : List Nat} : ∀ {l : List SV} {r : List Value}, vals l = some r → l.map (den env) = r
  | [], r, h => by simp only [vals, Option.some.injEq] at h; subst h; rfl
  | .v x :: l, r, h => by
    simp only [vals] at h
    split at h
    · rename_i r' hr
      simp only [Option.some.injEq] at h; subst h
      simp [den, vals_sound hr]
    · simp at h
  | .ptr _ _ :: l, r, h => by simp [vals] at h
  | .slc _ _ _ _ :: l, r, h => by simp [vals] at h
  | .el _ _ :: l, r, h => by simp [vals] at h

theorem liftV_sound {env : List Nat} {M : List OB} : ∀ {l : List Value} {r : List SV}, liftV l = some r → r.map (den env) = l ∧ ∀ x ∈ r, x.ok M
  | [], r, h => by simp only [liftV, Option.some.injEq] at h; subst h; simp
  | a :: l, r, h => by
    simp only [liftV] at h
    split at h
    · rename_i r' hr
      simp only [Option.some.injEq] at h; subst h
      obtain ⟨h1, h2⟩ := liftV_sound (env := env) (M := M) hr
      refine ⟨by simp [den, h1], ?_⟩
      intro x hx
      simp only [List.mem_cons] at hx
      rcases hx with rfl | hx
      · exact trivial
      · exact h2 x hx
    · simp at h

theorem cellsV_sound {env : List Nat} {M : List OB} {x : SV} {r : List SV} (hx : x.ok M) (h : cellsV x = some r) : (den env x).cells = ⟨r.map (den env)⟩ ∧ ∀ y ∈ r, y.ok M := by
  unfold cellsV at h
  split at h
  · rename_i cs
    obtain ⟨h1, h2⟩ := liftV_sound (env := env) (M := M) h
    exact ⟨by simp [den, Value.cells, h1], h2⟩
  · rename_i y hy
    simp only [Option.some.injEq] at h; subst h
    refine ⟨?_, by simp [SV.ok]⟩
    cases y <;> simp [den, Value.cells]
    rename_i cs
    exact absurd rfl (hy cs.toList)
  · simp only [Option.some.injEq] at h; subst h
    refine ⟨?_, by simpa using hx⟩
    cases x with
    | v y => rename_i h1 h2; exact absurd rfl (h2 y)
    | ptr i o => simp [den, Value.cells]
    | slc i o l c => simp [den, Value.cells]
    | el a o => simp [den, Value.cells]

theorem one_sound {env : List Nat} : ∀ {x : SV}, one x = true → (den env x).oneCell' = true := by
  intro x h
  cases x with
  | v y => cases y <;> first | rfl | simp [one] at h
  | ptr i o => rfl
  | slc i o l c => rfl
  | el a o => rfl

theorem allOne_sound {env : List Nat} : ∀ {l : List SV}, allOne l = true → ∀ v ∈ l.map (den env), v.oneCell' = true
  | [], _, v, hv => by simp at hv
  | x :: l, h, v, hv => by
    simp only [allOne] at h
    split at h
    · rename_i h1
      simp only [List.map_cons, List.mem_cons] at hv
      rcases hv with rfl | hv
      · exact one_sound h1
      · exact allOne_sound h v hv
    · simp at h

theorem putN_sound {α : Type} : ∀ {l : List α} {o : Nat} {vs r : List α}, putN l o vs = some r → o + vs.length ≤ l.length ∧ r = l.take o ++ vs ++ l.drop (o + vs.length)
  | l, 0, [], r, h => by simp only [putN, Option.some.injEq] at h; subst h; simp
  | [], o + 1, vs, r, h => by simp [putN] at h
  | [], 0, v :: vs, r, h => by simp [putN] at h
  | a :: l, 0, v :: vs, r, h => by
    simp only [putN] at h
    split at h
    · rename_i r' hr
      simp only [Option.some.injEq] at h; subst h
      obtain ⟨h1, h2⟩ := putN_sound hr
      simp at h1 h2 ⊢
      exact ⟨by omega, by rw [h2]⟩
    · simp at h
  | a :: l, o + 1, vs, r, h => by
    simp only [putN] at h
    split at h
    · rename_i r' hr
      simp only [Option.some.injEq] at h; subst h
      obtain ⟨h1, h2⟩ := putN_sound hr
      simp at h1 h2 ⊢
      refine ⟨by omega, ?_⟩
      rw [h2, show o + 1 + vs.length = (o + vs.length) + 1 by omega, List.drop_succ_cons]
    · simp at h

theorem setN_sound {α : Type} : ∀ {l : List α} {i : Nat} {x : α} {r : List α}, setN l i x = some r → i < l.length ∧ r = l.set i x
  | [], i, x, r, h => by simp [setN] at h
  | a :: l, 0, x, r, h => by simp only [setN, Option.some.injEq] at h; subst h; simp
  | a :: l, i + 1, x, r, h => by
    simp only [setN] at h
    split at h
    · rename_i r' hr
      simp only [Option.some.injEq] at h; subst h
      obtain ⟨h1, h2⟩ := setN_sound hr
      exact ⟨by simpa using h1, by simp [h2]⟩
    · simp at h

theorem snocN_sound {α : Type} : ∀ {l : List α} {x : α} {i : Nat} {r : List α} {n : Nat}, snocN l x i = some (r, n) → r = l ++ [x] ∧ n = i + l.length
  | [], x, i, r, n, h => by simp only [snocN, Option.some.injEq, Prod.mk.injEq] at h; obtain ⟨rfl, rfl⟩ := h; simp
  | a :: l, x, i, r, n, h => by
    simp only [snocN] at h
    split at h
    · rename_i r' n' hr
      simp only [Option.some.injEq, Prod.mk.injEq] at h
      obtain ⟨rfl, rfl⟩ := h
      obtain ⟨h1, h2⟩ := snocN_sound hr
      exact ⟨by simp [h1], by simp; omega⟩
    · simp at h

end Go.Proofs.Ytkbldnpifmjipaa
