/-
  A FRAMEWORK FOR PROOFS ABOUT CALLS (part e of the second row): contracts of functions that are handed several rows of the caller's own; own memory sorted anew.
  Conditions: the table of types is the program's (TOk).
-/
import Derived.Test.YtkbldnpifmjipaaGb
set_option linter.all false
namespace Go.Proofs.Ytkbldnpifmjipaa

/-! ### Own memory, sorted anew -/

def pickMem {α : Type} (M : List α) : List Nat → Option (List α)
  | [] => some []
  | i :: p => match nth M i, pickMem M p with
    | some b, some r => some (b :: r)
    | _, _ => none

theorem pickMem_sound {α : Type} {M : List α} : ∀ {p : List Nat} {r : List α}, pickMem M p = some r → r.length = p.length ∧ ∀ (j : Nat) (o : α), r[j]? = some o → ∃ i, p[j]? = some i ∧ M[i]? = some o
  | [], r, h => by simp only [pickMem, Option.some.injEq] at h; subst h; simp
  | i :: p, r, h => by
    simp only [pickMem] at h
    split at h
    · rename_i b r' hb hr
      simp only [Option.some.injEq] at h; subst h
      obtain ⟨h1, h2⟩ := pickMem_sound hr
      refine ⟨by simp [h1], ?_⟩
      intro j o ho
      cases j with
      | zero => simp at ho; subst ho; exact ⟨i, rfl, by rw [← nth_eq]; exact hb⟩
      | succ j => simp at ho; obtain ⟨i', g1, g2⟩ := h2 j o ho; exact ⟨i', by simpa using g1, g2⟩
    · simp at h

def nodupN : List Nat → Bool
  | [] => true
  | a :: l => match inL a l with
    | true => false
    | false => nodupN l

theorem nodupN_inj : ∀ {l : List Nat}, nodupN l = true → ∀ {i j a : Nat}, l[i]? = some a → l[j]? = some a → i = j
  | [], _, i, j, a, h, _ => by simp at h
  | b :: l, hn, i, j, a, h, h' => by
    simp only [nodupN] at hn
    split at hn
    · simp at hn
    · rename_i hb
      have hb' : b ∉ l := fun hm => by rw [inL_iff.2 hm] at hb; simp at hb
      cases i with
      | zero =>
        cases j with
        | zero => rfl
        | succ j =>
          simp at h h'
          subst h
          exact absurd (List.mem_of_getElem? h') hb'
      | succ i =>
        cases j with
        | zero =>
          simp at h h'
          subst h'
          exact absurd (List.mem_of_getElem? h) hb'
        | succ j =>
          simp at h h'
          rw [nodupN_inj hn h h']

/-- A symbolic value over the memory sorted anew, as one over the memory that was. -/
def selSV (p : List Nat) : SV → Option SV
  | .ptr j o => match nth p j with
    | some i => some (.ptr i o)
    | none => none
  | .slc j o l c => match nth p j with
    | some i => some (.slc i o l c)
    | none => none
  | x => some x

def SubS (p : List Nat) : Fr → Fr → Prop
  | [], _ => True
  | (s, x) :: L', L => (∃ y, selSV p x = some y ∧ lookL L s = some y) ∧ SubS p L' L

theorem SubS.look {p : List Nat} {L : Fr} : ∀ {L' : Fr}, SubS p L' L → ∀ s x, lookL L' s = some x → ∃ y, selSV p x = some y ∧ lookL L s = some y
  | [], _, s, x, h => by simp [lookL] at h
  | (n, y) :: L', hs, s, x, h => by
    rw [lookL_cons] at h
    split at h
    · rename_i hn
      simp only [Option.some.injEq] at h
      subst h; subst hn
      exact hs.1
    · exact SubS.look hs.2 s x h

/-- Own memory is sorted anew; what is not wanted any more is let go. -/
theorem Exec.sel {C : Ctx} (p : List Nat) (L' : Fr) {k : List Kt} {L : Fr} {M M' : List OB} {V : View} (hk : noOps k = true) (hM : pickMem M p = some M') (hd : nodupN p = true) (hrow : rowsOnly M' = true) (hs : SubS p L' L)
    (h : Exec C ⟨k, L', M'⟩ V) : Exec C ⟨k, L, M⟩ V := by
  refine Exec.of fun FR DF env t w h1 h2 h3 h4 h5 => ?_
  obtain ⟨hlen, hget⟩ := pickMem_sound hM
  have henv : ∀ (j i : Nat), p[j]? = some i → envAt (p.map (envAt env)) j = envAt env i := fun j i hj => by simp [envAt, hj]
  have hW : WOk C.V0 FR (p.map (envAt env)) V M' w := by
    refine ⟨h2.os, h2.tape, h2.output, h2.frame, h2.le, h2.holds, h2.fresh, by simp [hlen], ?_, ?_, ?_, ?_⟩
    · intro j o ho
      obtain ⟨i, g1, g2⟩ := hget j o ho
      have := h2.sat i o g2
      rw [henv j i g1]
      rcases rowsOnly_get hrow ho with ⟨x, cs, e, sz, rfl⟩ | ⟨cs, ty, rfl, hv⟩
      · exact this
      · refine ⟨?_, allV_ok hv⟩
        rw [this.1]
        congr 3
        refine List.map_congr_left fun y hy => ?_
        cases y with
        | v _ => rfl
        | _ => exact absurd (allV_mem hv _ hy) (by simp)
    · intro j o a ho ha
      obtain ⟨i, g1, g2⟩ := hget j o ho
      rw [henv j i g1] at ha
      exact h2.apartV i o a g2 ha
    · intro j o a ho ha
      obtain ⟨i, g1, g2⟩ := hget j o ho
      rw [henv j i g1] at ha
      exact h2.apartF i o a g2 ha
    · intro j j' o q a hij ho hq ha ha'
      obtain ⟨i, g1, g2⟩ := hget j o ho
      obtain ⟨i', g3, g4⟩ := hget j' q hq
      rw [henv j i g1] at ha
      rw [henv j' i' g3] at ha'
      exact h2.apart i i' o q a (fun e => hij (nodupN_inj hd g1 (e ▸ g3))) g2 g4 ha ha'
  have hal : ∀ (j i : Nat), p[j]? = some i → alive M i → alive M' j := by
    intro j i hj ⟨o, g1, g2⟩
    have hjl : j < M'.length := by rw [hlen]; exact (List.getElem?_eq_some_iff.1 hj).1
    obtain ⟨i', g3, g4⟩ := hget j M'[j] (by simp [hjl])
    rw [hj] at g3
    simp only [Option.some.injEq] at g3
    subst g3
    rw [g1] at g4
    simp only [Option.some.injEq] at g4
    exact ⟨o, by rw [g4]; simp [hjl], g2⟩
  refine h.to0 hk h1 hW (fun s x hx => ?_) DF
  obtain ⟨y, g1, g2⟩ := hs.look s x hx
  obtain ⟨k1, k2⟩ := h3 s y g2
  cases x with
  | v _ => simp only [selSV, Option.some.injEq] at g1; subst g1; exact ⟨k1, trivial⟩
  | el _ _ => simp only [selSV, Option.some.injEq] at g1; subst g1; exact ⟨k1, k2⟩
  | ptr j o =>
    simp only [selSV] at g1
    split at g1
    · rename_i i hi
      simp only [Option.some.injEq] at g1; subst g1
      rw [nth_eq] at hi
      exact ⟨by rw [k1]; simp only [den, henv j i hi], hal j i hi k2⟩
    · simp at g1
  | slc j o l c =>
    simp only [selSV] at g1
    split at g1
    · rename_i i hi
      simp only [Option.some.injEq] at g1; subst g1
      rw [nth_eq] at hi
      exact ⟨by rw [k1]; simp only [den, henv j i hi], hal j i hi k2⟩
    · simp at g1

/-! ### A drawn region whose order parts -/

theorem Exec.pick2 {C : Ctx} {all : List Oper} {listed : List Bool} {ends : List Nat} {n0 : Nat} {mask : List Nat} {V1 : View} {lr : List REnt} {n n' i j : Nat} {oi oj : Oper} {k : List Kt} {L : Fr} {M : List OB} {V : View} (p q : List (Nat × Bool)) (hn : n' = n + 1) (hr : rdy listed 0 all = [i, j]) (hi : nth all i = some oi) (hj : nth all j = some oj)
    (hs : sameL all listed = true) (hp : planOk all ends n (setT listed i) p = true) (hq : planOk all ends n (setT listed j) q = true)
    (h1 : Exec C ⟨.ops [oi] all lr :: .draw ⟨all, setT listed i, n, ends, n0, mask, V1, p, lr⟩ :: k, L, M⟩ V)
    (h2 : Exec C ⟨.ops [oj] all lr :: .draw ⟨all, setT listed j, n, ends, n0, mask, V1, q, lr⟩ :: k, L, M⟩ V) : Exec C ⟨.draw ⟨all, listed, n', ends, n0, mask, V1, [], lr⟩ :: k, L, M⟩ V := by
  subst hn
  refine Exec.pick (D := ⟨all, listed, n + 1, ends, n0, mask, V1, [], lr⟩) hs rfl (by simp only; rw [hr]; simp) fun x hx o ho => ?_
  simp only at hx ho ⊢
  rw [hr] at hx
  simp only [List.mem_cons, List.not_mem_nil, or_false] at hx
  rcases hx with rfl | rfl
  · rw [hi] at ho; simp only [Option.some.injEq] at ho; subst ho; exact ⟨p, hp, h1⟩
  · rw [hj] at ho; simp only [Option.some.injEq] at ho; subst ho; exact ⟨q, hq, h2⟩

/-! ### Several rows handed over -/

/-- A CONTRACT with rows: called with these arguments, where the rows are the caller's own: it returns; but for the rows nothing that was there is changed; as many rows are handed back. -/
def SpecR (P : Program) (f : Nat) (args : List Value) (rs : List RowD) (V : View) (R : View → Value → List RowD → Prop) : Prop :=
  IsFn P f ∧ ∀ FR env w, WOk V FR env V (rs.map RowD.ob) w → Calls P f ⟨args⟩ w fun e w' => ∃ v V' env' rs', e = .returned v ∧ rs'.length = rs.length ∧ WOk V FR env' V' (rs'.map RowD.ob) w' ∧ R V' v rs'

theorem SpecR.mono {P : Program} {f : Nat} {args : List Value} {rs : List RowD} {V : View} {R R' : View → Value → List RowD → Prop} (h : SpecR P f args rs V R) (hr : ∀ V' v rs', VLe V V' → R V' v rs' → R' V' v rs') : SpecR P f args rs V R' :=
  ⟨h.1, fun FR env w h1 => (h.2 FR env w h1).mono fun _ _ ⟨v, V', env', rs', p1, p2, p3, p4⟩ => ⟨v, V', env', rs', p1, p2, p3, hr V' v rs' p3.le p4⟩⟩

def RowsEnd (n : Nat) (R : View → Value → List RowD → Prop) (V : View) (v : Value) (M : List OB) : Prop := ∃ rs' : List RowD, takeL n M = rs'.map RowD.ob ∧ rs'.length = n ∧ R V v rs'

theorem takeL_eq {α : Type} : ∀ (n : Nat) (l : List α), takeL n l = l.take n
  | 0, l => by simp [takeL]
  | n + 1, [] => by simp [takeL]
  | n + 1, a :: l => by simp [takeL, takeL_eq n l]

theorem rows_get {rs : List RowD} {i : Nat} {o : OB} (h : (rs.map RowD.ob)[i]? = some o) : ∃ r, rs[i]? = some r ∧ o = .row r.x r.cs r.e r.sz := by
  rw [List.getElem?_map] at h
  cases hr : rs[i]? with
  | none => rw [hr] at h; simp at h
  | some r => rw [hr] at h; simp at h; exact ⟨r, rfl, h.symm⟩

theorem WOk.rows {V0 V : View} {FR : Frm} {env : List Nat} {M : List OB} {w : World} (h : WOk V0 FR env V M w) {rs : List RowD} {n : Nat} (hM : takeL n M = rs.map RowD.ob) : WOk V0 FR (env.take n) V (rs.map RowD.ob) w := by
  rw [takeL_eq] at hM
  have hget : ∀ (i : Nat) (o : OB), (rs.map RowD.ob)[i]? = some o → M[i]? = some o ∧ i < n ∧ ∃ r : RowD, o = .row r.x r.cs r.e r.sz := by
    intro i o ho
    obtain ⟨r, _, hr⟩ := rows_get ho
    rw [← hM, List.getElem?_take] at ho
    split at ho
    · rename_i hi; exact ⟨ho, hi, r, hr⟩
    · simp at ho
  refine ⟨h.os, h.tape, h.output, h.frame, h.le, h.holds, h.fresh, ?_, ?_, ?_, ?_, ?_⟩
  · rw [← hM]; simp [h.len]
  · intro i o ho
    obtain ⟨g1, g2, r, rfl⟩ := hget i o ho
    exact h.sat i _ g1
  · intro i o a ho ha
    obtain ⟨g1, g2, r, rfl⟩ := hget i o ho
    exact h.apartV i _ a g1 ha
  · intro i o a ho ha
    obtain ⟨g1, g2, r, rfl⟩ := hget i o ho
    exact h.apartF i _ a g1 ha
  · intro i j o q a hij ho hq ha ha'
    obtain ⟨g1, g2, r, rfl⟩ := hget i o ho
    obtain ⟨g3, g4, r', rfl⟩ := hget j q hq
    exact h.apart i j _ _ a hij g1 g3 ha ha'

theorem SpecR.enter {P : Program} {T : List TyD} {f nt : Nat} {fn : Func} {c : Code} {args : List Value} {rs : List RowD} {M : List OB} {V : View} {R : View → Value → List RowD → Prop} {L : Fr}
    (hf : P.funcs[f]? = some fn) (hb : fn.body = some c) (hname : (fn.name == "runtime.NumGoroutine") = false) (hnt : fn.ntmps = nt) (hlen : Nat.ble args.length nt = true) (hL : argFr 0 args = L) (hM : rs.map RowD.ob = M)
    (h : Exec ⟨P, T, fn, nt, V, RowsEnd rs.length R⟩ ⟨[.code c], L, M⟩ V) : SpecR P f args rs V R := by
  subst hM
  refine ⟨⟨fn, hf, by rw [hb]; rfl, hname⟩, fun FR env w hW => ?_⟩
  have hle := Nat.le_of_ble_eq_true hlen
  have hcall := calls_of_wp (P := P) (f := f) (args := ⟨args⟩) (w := w) (R := endP ⟨P, T, fn, nt, V, RowsEnd rs.length R⟩ FR) hf hb (by
    refine h.to0 (k := [.code c]) rfl (FR := FR) (env := env) (t := (⟨args⟩ : Array Value) ++ Array.replicate (fn.ntmps - args.length) undef) ?_ hW ?_ .none
    · simp [hnt]; omega
    · intro s x hx
      rw [← hL] at hx
      obtain ⟨v, rfl, _, h2⟩ := argFr_look args 0 s x hx
      refine ⟨?_, trivial⟩
      have hs : s < args.length := (List.getElem?_eq_some_iff.1 h2).1
      rw [Array.getElem?_append]
      simpa [hs, den] using h2)
  refine hcall.mono fun e w' hp => ?_
  obtain ⟨v, env', V', M', h1, hW', rs', hM', hl', hR⟩ := hp
  exact ⟨v, V', env'.take rs.length, rs', h1, hl', hW'.rows hM', hR⟩

/-- The blocks at these places are replaced. -/
def putAll (M : List OB) : List Nat → List OB → Option (List OB)
  | [], [] => some M
  | i :: is, b :: bs => match setN M i b with
    | some M1 => putAll M1 is bs
    | none => none
  | _, _ => none

def wrAll (k : List Kt) : List Nat → Bool
  | [] => true
  | i :: is => match wrOk i k with
    | true => wrAll k is
    | false => false

theorem putAll_sound : ∀ {is : List Nat} {bs : List OB} {M M' : List OB}, putAll M is bs = some M' → (∀ b ∈ bs, b ≠ .gone) →
    M'.length = M.length ∧ bs.length = is.length ∧ (∀ (j : Nat) (q : OB), M'[j]? = some q → (∃ p : Nat, is[p]? = some j ∧ bs[p]? = some q) ∨ (j ∉ is ∧ M[j]? = some q)) ∧ (∀ i, alive M i → alive M' i)
  | [], [], M, M', h, _ => by simp only [putAll, Option.some.injEq] at h; subst h; simp
  | [], _ :: _, M, M', h, _ => by simp [putAll] at h
  | _ :: _, [], M, M', h, _ => by simp [putAll] at h
  | i :: is, b :: bs, M, M', h, hb => by
    simp only [putAll] at h
    split at h
    · rename_i M1 h1
      obtain ⟨hi, rfl⟩ := setN_sound h1
      obtain ⟨e1, e2, e3, e4⟩ := putAll_sound h (fun b' hb' => hb b' (by simp [hb']))
      refine ⟨by rw [e1]; simp, by simp [e2], ?_, fun j hj => e4 j (alive_set (hb b (by simp)) hj)⟩
      intro j q hq
      rcases e3 j q hq with ⟨p, g1, g2⟩ | ⟨g1, g2⟩
      · exact .inl ⟨p + 1, by simpa using g1, by simpa using g2⟩
      · rw [List.getElem?_set] at g2
        split at g2
        · rename_i hij
          subst hij
          simp [hi] at g2
          exact .inl ⟨0, rfl, by simp [g2]⟩
        · rename_i hij
          exact .inr ⟨by simp only [List.mem_cons, not_or]; exact ⟨fun e => hij e.symm, g1⟩, g2⟩
    · simp at h

theorem DOk.writeAll {DF : DFr} {env : List Nat} {V : View} {rest all : List Oper} {lr : List REnt} {k : List Kt} : ∀ {is : List Nat} {bs : List OB} {M M' : List OB}, putAll M is bs = some M' → wrAll k is = true →
    DOk DF env V M (.ops rest all lr :: k) → DOk DF env V M' (.ops rest all lr :: k)
  | [], [], M, M', h, _, hD => by simp only [putAll, Option.some.injEq] at h; subst h; exact hD
  | [], _ :: _, M, M', h, _, _ => by simp [putAll] at h
  | _ :: _, [], M, M', h, _, _ => by simp [putAll] at h
  | i :: is, b :: bs, M, M', h, hk, hD => by
    simp only [putAll] at h
    simp only [wrAll] at hk
    split at hk
    · rename_i hk1
      split at h
      · rename_i M1 h1
        obtain ⟨hi, rfl⟩ := setN_sound h1
        exact DOk.writeAll h hk (DOk.write hk1 hD)
      · simp at h
    · simp at hk

theorem ROk.alive {env : List Nat} {M M' : List OB} {lr : List REnt} {t : Array Value} (h : ROk env M lr t) (hal : ∀ i, alive M i → alive M' i) : ROk env M' lr t := fun s e he =>
  ⟨fun hc => ⟨((h s e he).1 hc).1, SV.ok_mono hal ((h s e he).1 hc).2⟩, (h s e he).2⟩
theorem LOk.alive {env : List Nat} {M M' : List OB} {L : Fr} {t : Array Value} (h : LOk env M L t) (hal : ∀ i, alive M i → alive M' i) : LOk env M' L t := fun s x hx => ⟨(h s x hx).1, SV.ok_mono hal (h s x hx).2⟩

open Classical in
/-- A CALL that is handed rows of the call's own. -/
theorem Exec.callR {C : Ctx} (is : List Nat) {o : Oper} {rest all : List Oper} {lr : List REnt} {k : List Kt} {L : Fr} {M : List OB} {V : View} {d f : Nat} {args : List Value} {rs : List RowD} {bs : List OB} {R : View → Value → List RowD → Prop}
    (hh : headOf C.nt all lr L o = some ([], d)) (hc : callOf (opd L lr) [] o.op = some (f, args)) (hi : pickMem M is = some bs) (hbs : bs = rs.map RowD.ob) (hnd : nodupN is = true) (hk : wrAll k is = true) (hs : SpecR C.P f args rs V R)
    (h : ∀ V' v rs', VLe V V' → R V' v rs' → ∃ M', putAll M is (rs'.map RowD.ob) = some M' ∧ Exec C ⟨.ops rest all (⟨d, [], .v v, d⟩ :: lr) :: k, (d, .v v) :: L, M'⟩ V') : Exec C ⟨.ops (o :: rest) all lr :: k, L, M⟩ V := by
  subst hbs
  refine Exec.of fun FR DF env t w h1 h2 h3 h4 h5 => ?_
  obtain ⟨hg, hd, hn, hf, _⟩ := headOf_some hh
  have hdt : d < t.size := by rw [h1]; simpa [Nat.blt_eq] using hn
  have hw := guard_sound h4 hg
  show wpList C.P ⟨all⟩ (post C FR DF k) (o :: rest) ⟨t, []⟩ w
  refine wpList_want ?_
  rw [if_pos (hw.2 trivial)]
  obtain ⟨hfn, hcall⟩ := hs
  unfold Oper.wp
  rw [callOf_wp (opd_sound h3 h4) (G := []) trivial hc hfn w]
  obtain ⟨hlen, hget⟩ := pickMem_sound hi
  -- whose blocks are handed over
  let Hd : Nat → Prop := fun b => ∃ r ∈ rs, r.x.ownBlock = some b
  have hHd : ∀ b, Hd b → ∃ (i : Nat) (r : RowD), i ∈ is ∧ M[i]? = some (.row r.x r.cs r.e r.sz) ∧ r.x.ownBlock = some b := by
    intro b ⟨r, hr, hb⟩
    obtain ⟨j, hj⟩ := List.mem_iff_getElem?.1 hr
    obtain ⟨i, g1, g2⟩ := hget j r.ob (by rw [List.getElem?_map, hj]; rfl)
    exact ⟨i, r, List.mem_of_getElem? g1, g2, hb⟩
  let FR' : Frm := ⟨w.os, w.tape, w.output, fun b => if Hd b then none else w.heap[b]?⟩
  have hFR' : ∀ b, FR'.blk b = none → Hd b ∨ w.heap.size ≤ b := by
    intro b hb
    simp only [FR'] at hb
    split at hb
    · rename_i h; exact .inl h
    · right
      refine Nat.le_of_not_lt fun hl => ?_
      simp [hl] at hb
  have hFRn : ∀ b, w.heap.size ≤ b → FR.blk b = none := by
    intro b hb
    cases hv : FR.blk b with
    | none => rfl
    | some x =>
      have := h2.frame b x hv
      have := (Array.getElem?_eq_some_iff.1 this).1
      omega
  have hHdF : ∀ b, Hd b → FR.blk b = none := by
    intro b hb
    obtain ⟨i, r, _, g2, g3⟩ := hHd b hb
    exact h2.apartF i _ ⟨b, 0, none⟩ g2 g3
  have hkeep : ∀ b, ¬ Hd b → FR'.blk b = w.heap[b]? := fun b hb => if_neg hb
  have hW0 : WOk V FR' (List.replicate rs.length 0) V (rs.map RowD.ob) w := by
    refine ⟨rfl, rfl, rfl, fun b o ho => ?_, VLe.refl V, h2.holds, fun _ _ h => .inl h, by simp, ?_, ?_, ?_, ?_⟩
    · simp only [FR'] at ho
      split at ho
      · simp at ho
      · exact ho
    · intro j o ho
      obtain ⟨r, _, rfl⟩ := rows_get ho
      obtain ⟨i, _, g2⟩ := hget j _ ho
      exact h2.sat i _ g2
    · intro j o a ho ha
      obtain ⟨r, _, rfl⟩ := rows_get ho
      obtain ⟨i, _, g2⟩ := hget j _ ho
      exact h2.apartV i _ a g2 ha
    · intro j o a ho ha
      obtain ⟨r, hr, rfl⟩ := rows_get ho
      exact if_pos ⟨r, List.mem_of_getElem? hr, ha⟩
    · intro j j' o q a hij ho hq ha ha'
      obtain ⟨r, _, rfl⟩ := rows_get ho
      obtain ⟨r', _, rfl⟩ := rows_get hq
      obtain ⟨i, g1, g2⟩ := hget j _ ho
      obtain ⟨i', g3, g4⟩ := hget j' _ hq
      exact h2.apart i i' _ _ a (fun e => hij (nodupN_inj hnd g1 (e ▸ g3))) g2 g4 ha ha'
  refine (hcall FR' _ w hW0).mono fun e' w' ⟨v, V', env', rs', p1, p2, p3, p4⟩ => ?_
  subst p1
  obtain ⟨M', hM', hE⟩ := h V' v rs' p3.le p4
  obtain ⟨e1, e2, e3, e4⟩ := putAll_sound hM' (fun b hb => by
    obtain ⟨r, _, rfl⟩ := List.mem_map.1 hb
    simp [RowD.ob])
  have hold : ∀ (j : Nat) (q : OB), j ∉ is → M[j]? = some q → ∀ a : Addr, q.own (envAt env j) a → ¬ Hd a.block ∧ a.block < w.heap.size := by
    intro j q hj hq a ha
    refine ⟨fun hh => ?_, OB.own_lt (h2.sat j q hq) ha⟩
    obtain ⟨i, r, g1, g2, g3⟩ := hHd _ hh
    exact h2.apart j i q _ a (fun e => hj (e ▸ g1)) hq g2 ha g3
  have hW' : WOk C.V0 FR env V' M' w' := by
    refine ⟨p3.os.trans h2.os, p3.tape.trans h2.tape, p3.output.trans h2.output, ?_, h2.le.trans p3.le, p3.holds, ?_, by rw [h2.len, e1], ?_, ?_, ?_, ?_⟩
    · intro b q hq
      have hb : ¬ Hd b := fun hb => by rw [hHdF b hb] at hq; simp at hq
      exact p3.frame b q (by rw [hkeep b hb]; exact h2.frame b q hq)
    · intro a x hx
      rcases p3.fresh a x hx with g | g
      · exact h2.fresh a x g
      · rcases hFR' _ g with g | g
        · exact .inr (hHdF _ g)
        · exact .inr (hFRn _ g)
    · intro j q hq
      rcases e3 j q hq with ⟨p, g1, g2⟩ | ⟨g1, g2⟩
      · obtain ⟨r, _, rfl⟩ := rows_get g2
        exact p3.sat p _ g2
      · refine OB.sat_of rfl (fun _ _ => rfl) (fun x => SV.ok_mono e4) (h2.sat j q g2) fun b hb => ?_
        obtain ⟨n1, n2⟩ := hold j q g1 g2 _ hb
        have hex : w.heap[b]? = some w.heap[b] := by simp [n2]
        rw [hex]
        exact p3.frame b _ (by rw [hkeep b n1]; exact hex)
    · intro j q a hq ha
      rcases e3 j q hq with ⟨p, g1, g2⟩ | ⟨g1, g2⟩
      · obtain ⟨r, _, rfl⟩ := rows_get g2
        exact p3.apartV p _ a g2 ha
      · obtain ⟨n1, n2⟩ := hold j q g1 g2 _ ha
        cases hv : V' a with
        | none => rfl
        | some x =>
          rcases p3.fresh a x hv with g | g
          · rw [h2.apartV j q a g2 ha] at g; simp at g
          · rcases hFR' _ g with g | g
            · exact absurd g n1
            · omega
    · intro j q a hq ha
      rcases e3 j q hq with ⟨p, g1, g2⟩ | ⟨g1, g2⟩
      · obtain ⟨r, _, rfl⟩ := rows_get g2
        rcases hFR' _ (p3.apartF p _ a g2 ha) with g | g
        · exact hHdF _ g
        · exact hFRn _ g
      · exact h2.apartF j q a g2 ha
    · intro j j' q q' a hij hq hq' ha ha'
      rcases e3 j q hq with ⟨p, g1, g2⟩ | ⟨g1, g2⟩
      · obtain ⟨r, _, rfl⟩ := rows_get g2
        rcases e3 j' q' hq' with ⟨p', g3, g4⟩ | ⟨g3, g4⟩
        · obtain ⟨r', _, rfl⟩ := rows_get g4
          exact p3.apart p p' _ _ a (fun e => hij (by subst e; rw [g1] at g3; simpa using g3)) g2 g4 ha ha'
        · obtain ⟨n1, n2⟩ := hold j' q' g3 g4 _ ha'
          rcases hFR' _ (p3.apartF p _ a g2 ha) with g | g
          · exact n1 g
          · omega
      · obtain ⟨n1, n2⟩ := hold j q g1 g2 _ ha
        rcases e3 j' q' hq' with ⟨p', g3, g4⟩ | ⟨g3, g4⟩
        · obtain ⟨r', _, rfl⟩ := rows_get g4
          rcases hFR' _ (p3.apartF p' _ a g4 ha') with g | g
          · exact n1 g
          · omega
        · exact h2.apart j j' q q' a hij g2 g4 ha ha'
  simp only [Act.put, hd]
  exact hE.to FR DF env (t.setIfInBounds d v) w' (by simpa using h1) hW' ((h3.alive e4).put (x := .v v) hdt trivial) ((h4.alive e4).put hdt hf (fun _ => rfl) (fun hn => absurd trivial hn) rfl (.inl rfl) (fun _ => trivial))
    (DOk.grow (M := M') ⟨[], by simp⟩ p3.le ⟨[], by simp⟩ (DOk.writeAll hM' hk h5.same))

/-! ### A block of the call's own becomes a row -/

def substQ (i b : Nat) : SV → SV
  | .ptr j o => match Nat.beq j i with
    | true => .v (.pointer (some ⟨b, o, none⟩))
    | false => .ptr j o
  | .slc j o n c => match Nat.beq j i with
    | true => .v (.slice (some ⟨b, o, none⟩) n c)
    | false => .slc j o n c
  | x => x

def substL (i b : Nat) : Fr → Fr
  | [] => []
  | (s, x) :: L => (s, substQ i b x) :: substL i b L

def substE (i b : Nat) : List REnt → List REnt
  | [] => []
  | ⟨s, c, x, r⟩ :: L => ⟨s, c, substQ i b x, r⟩ :: substE i b L

theorem substQ_den {i b : Nat} {env : List Nat} (hb : envAt env i = b) (x : SV) : den env (substQ i b x) = den env x ∧ ∀ M : List OB, x.ok M → (substQ i b x).ok M := by
  cases x with
  | v _ => exact ⟨rfl, fun _ h => h⟩
  | el _ _ => exact ⟨rfl, fun _ h => h⟩
  | ptr j o =>
    simp only [substQ]
    split
    · rename_i hj
      have := beq_nat hj
      subst this
      exact ⟨by simp [den, hb], fun _ _ => trivial⟩
    · exact ⟨rfl, fun _ h => h⟩
  | slc j o n c =>
    simp only [substQ]
    split
    · rename_i hj
      have := beq_nat hj
      subst this
      exact ⟨by simp [den, hb], fun _ _ => trivial⟩
    · exact ⟨rfl, fun _ h => h⟩

theorem substL_look {i b : Nat} : ∀ {L : Fr} {s : Nat} {x : SV}, lookL (substL i b L) s = some x → ∃ y, lookL L s = some y ∧ x = substQ i b y
  | [], s, x, h => by simp [substL, lookL] at h
  | (d, y) :: L, s, x, h => by
    simp only [substL, lookL_cons] at h ⊢
    split at h
    · rename_i hd
      simp only [Option.some.injEq] at h
      rw [if_pos hd]
      exact ⟨y, rfl, h.symm⟩
    · rename_i hd
      rw [if_neg hd]
      exact substL_look h

theorem substE_look {i b : Nat} : ∀ {lr : List REnt} {s : Nat} {e : REnt}, lookR (substE i b lr) s = some e → ∃ e', lookR lr s = some e' ∧ e'.c = e.c ∧ e'.r = e.r ∧ e.x = substQ i b e'.x
  | [], s, e, h => by simp [substE, lookR] at h
  | ⟨d, c, y, r⟩ :: lr, s, e, h => by
    simp only [substE, lookR_cons] at h ⊢
    split at h
    · rename_i hd
      simp only [Option.some.injEq] at h
      subst h
      rw [if_pos hd]
      exact ⟨_, rfl, rfl, rfl, rfl⟩
    · rename_i hd
      rw [if_neg hd]
      exact substE_look h

theorem wrOk_hd {i : Nat} {rest all : List Oper} {lr lr' : List REnt} {k : List Kt} {DF : DFr} {env : List Nat} {V : View} {M : List OB} {b : OB} (hk : wrOk i k = true) (h : DOk DF env V M (.ops rest all lr :: k)) : DOk DF env V (M.set i b) (.ops rest all lr' :: k) :=
  DOk.write hk h.same

/-- A block of the call's own becomes a row of n elements of sz cells each. -/
theorem Exec.fixR {C : Ctx} (i : Nat) {n sz ty : Nat} {cs : List Value} {rest all : List Oper} {lr : List REnt} {k : List Kt} {L : Fr} {M : List OB} {V : View} {M' : Nat → List OB} {L' : Nat → Fr} {lr' : Nat → List REnt} {sv : List SV}
    (hk : wrOk i k = true) (hi : nth M i = some (.blk sv ty)) (hv : vals sv = some cs) (hl : Nat.beq cs.length (n * sz) = true) (hn : Nat.ble n 1000000 = true) (hs : ∀ b, setN M i (.row (.slice (some ⟨b, 0, none⟩) n n) cs ty sz) = some (M' b))
    (hL : ∀ b, substL i b L = L' b) (hR : ∀ b, substE i b lr = lr' b)
    (h : ∀ b, Exec C ⟨.ops rest all (lr' b) :: k, L' b, M' b⟩ V) : Exec C ⟨.ops rest all lr :: k, L, M⟩ V := by
  refine Exec.of fun FR DF env t w h1 h2 h3 h4 h5 => ?_
  rw [nth_eq] at hi
  have hsat := (h2.sat i _ hi).1
  rw [vals_sound (env := env) hv] at hsat
  have hl := beq_nat hl
  have hn : n ≤ maxLen := Nat.le_trans (Nat.le_of_ble_eq_true hn) (by simp [maxLen])
  have hrow : rowSat w ty sz (.slice (some ⟨envAt env i, 0, none⟩) n n) cs := ⟨n, hl, .inr ⟨_, n, _, rfl, Nat.zero_le _, hsat, Nat.le_refl _, hn, by simp [hl], by simp [← hl]⟩⟩
  have hW := h2.upd (w' := w) (o' := .row (.slice (some ⟨envAt env i, 0, none⟩) n n) cs ty sz) hi (by simp) rfl rfl rfl (fun _ _ _ => rfl) hrow (fun a ha => .inl (by
    simp only [OB.own, Value.ownBlock, Option.some.injEq] at ha ⊢
    exact ha.symm))
  obtain ⟨_, hM'⟩ := setN_sound (hs (envAt env i))
  have hal : ∀ q, alive M q → alive (M' (envAt env i)) q := fun q hq => by rw [hM']; exact alive_set (by simp) hq
  refine (h (envAt env i)).to FR DF env t w h1 (by rw [hM']; exact hW) (fun s x hx => ?_) (fun s e he => ?_) (by
    show DOk DF env V (M' (envAt env i)) _
    rw [hM']
    exact DOk.write hk h5.same)
  · rw [← hL] at hx
    obtain ⟨y, k1, rfl⟩ := substL_look hx
    obtain ⟨k4, k5⟩ := h3 s y k1
    obtain ⟨q1, q2⟩ := substQ_den (env := env) (i := i) rfl y
    exact ⟨by rw [k4, q1], SV.ok_mono hal (q2 M k5)⟩
  · have he : lookR (lr' (envAt env i)) s = some e := he
    rw [← hR] at he
    obtain ⟨e', k1, k2, k3, k4⟩ := substE_look he
    have hh4 : ROk env M lr t := h4
    obtain ⟨g1, g2, g3⟩ := hh4 s e' k1
    obtain ⟨q1, q2⟩ := substQ_den (env := env) (i := i) rfl e'.x
    rw [k2] at g1 g2
    rw [k3] at g3
    exact ⟨fun hc => ⟨by rw [(g1 hc).1, k4, q1], by rw [k4]; exact SV.ok_mono hal (q2 M (g1 hc).2)⟩, g2, g3⟩

end Go.Proofs.Ytkbldnpifmjipaa
