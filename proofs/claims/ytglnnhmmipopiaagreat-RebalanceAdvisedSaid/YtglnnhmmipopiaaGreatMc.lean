/-
 A FRAMEWORK FOR PROOFS ABOUT CALLS: its parts Ge Gf Gg Gh Gd Pc Ia Ib Ja Jb put together.
 Conditions: the table of types is the program's (TOk).
-/
import Derived.Test.YtglnnhmmipopiaaGreatMb
import Derived.Lib.SliceRun
import Derived.Lib.Overlaps
import Derived.Lib.AppendZerosOnto
import Derived.Test.YtglnnhmmipopiaaGreatRows
import Derived.ProofKit
import Derived.OpenShut
import Derived.JoinedCond
import Derived.Shelf.SlIterI.Collect

set_option linter.all false
namespace Go.Proofs.YtglnnhmmipopiaaGreat

/-! ### Own memory, sorted anew -/
def pickMem {α : Type} (M : List α) : List Nat → Option (List α)
 | [] => some []
 | i :: p => match nth M i, pickMem M p with
  | some b, some r => some (b :: r)
  | _, _ => none
theorem pickMem_sound {α : Type} {M : List α} : ∀ {p : List Nat} {r : List α}, pickMem M p = some r → r.length = p.length ∧ ∀ (j : Nat) (o : α), r[j]? = some o → ∃ i, p[j]? = some i ∧ M[i]? = some o
 | [], r, h => by simp only [pickMem, Option.some.injEq] at h; subst h; simp
 | i :: p, r, h => by
  simp only [pickMem] at h
  split at h
  ·rename_i b r' hb hr
   simp only [Option.some.injEq] at h; subst h
   obtain ⟨h1, h2⟩ := pickMem_sound hr
   refine ⟨by simp [h1], ?_⟩
   intro j o ho
   cases j with
   | zero => simp at ho; subst ho; exact ⟨i, rfl, by rw [← nth_eq]; exact hb⟩
   | succ j => simp at ho; obtain ⟨i', g1, g2⟩ := h2 j o ho; exact ⟨i', by simpa using g1, g2⟩
  ·simp at h
def nodupN : List Nat → Bool
 | [] => true
 | a :: l => match inL a l with
  | true => false
  | false => nodupN l
theorem nodupN_inj : ∀ {l : List Nat}, nodupN l = true → ∀ {i j a : Nat}, l[i]? = some a → l[j]? = some a → i = j
 | [], _, i, j, a, h, _ => by simp at h
 | b :: l, hn, i, j, a, h, h' => by
  simp only [nodupN] at hn
  split at hn
  ·simp at hn
  ·rename_i hb
   have hb' : b ∉ l := fun hm => by rw [inL_iff.2 hm] at hb; simp at hb
   cases i with
   | zero =>
    cases j with
    | zero => rfl
    | succ j =>
     simp at h h'
     subst h
     exact absurd (List.mem_of_getElem? h') hb'
   | succ i =>
    cases j with
    | zero =>
     simp at h h'
     subst h'
     exact absurd (List.mem_of_getElem? h) hb'
    | succ j =>
     simp at h h'
     rw [nodupN_inj hn h h']
def selSV (p : List Nat) : SV → Option SV
 | .ptr j o => match nth p j with
  | some i => some (.ptr i o)
  | none => none
 | .slc j o l c => match nth p j with
  | some i => some (.slc i o l c)
  | none => none
 | x => some x
def SubS (p : List Nat) : Fr → Fr → Prop
 | [], _ => True
 | (s, x) :: L', L => (∃ y, selSV p x = some y ∧ lookL L s = some y) ∧ SubS p L' L
theorem SubS.look {p : List Nat} {L : Fr} : ∀ {L' : Fr}, SubS p L' L → ∀ s x, lookL L' s = some x → ∃ y, selSV p x = some y ∧ lookL L s = some y
 | [], _, s, x, h => by simp [lookL] at h
 | (n, y) :: L', hs, s, x, h => by
  rw [lookL_cons] at h
  split at h
  ·rename_i hn
   simp only [Option.some.injEq] at h
   subst h; subst hn
   exact hs.1
  ·exact SubS.look hs.2 s x h
theorem Exec.sel {C : Ctx} (p : List Nat) (L' : Fr) {k : List Kt} {L : Fr} {M M' : List OB} {V : View} (hk : noOps k = true) (hM : pickMem M p = some M') (hd : nodupN p = true) (hrow : rowsOnly M' = true) (hs : SubS p L' L)
  (h : Exec C ⟨k, L', M'⟩ V) : Exec C ⟨k, L, M⟩ V := by
 refine Exec.of fun FR DF env t w h1 h2 h3 h4 h5 => ?_
 obtain ⟨hlen, hget⟩ := pickMem_sound hM
 have henv : ∀ (j i : Nat), p[j]? = some i → envAt (p.map (envAt env)) j = envAt env i := fun j i hj => by simp [envAt, hj]
 have hW : WOk C.V0 FR (p.map (envAt env)) V M' w := by
  refine ⟨h2.os, h2.tape, h2.output, h2.frame, h2.le, h2.holds, h2.fresh, by simp [hlen], ?_, ?_, ?_, ?_⟩
  ·intro j o ho
   obtain ⟨i, g1, g2⟩ := hget j o ho
   have := h2.sat i o g2
   rw [henv j i g1]
   rcases rowsOnly_get hrow ho with ⟨x, cs, e, sz, rfl⟩ | ⟨cs, ty, rfl, hv⟩
   ·exact this
   ·refine ⟨?_, allV_ok hv⟩
    rw [this.1]
    congr 3
    refine List.map_congr_left fun y hy => ?_
    cases y with
    | v _ => rfl
    | _ => exact absurd (allV_mem hv _ hy) (by simp)
  ·intro j o a ho ha
   obtain ⟨i, g1, g2⟩ := hget j o ho
   rw [henv j i g1] at ha
   exact h2.apartV i o a g2 ha
  ·intro j o a ho ha
   obtain ⟨i, g1, g2⟩ := hget j o ho
   rw [henv j i g1] at ha
   exact h2.apartF i o a g2 ha
  ·intro j j' o q a hij ho hq ha ha'
   obtain ⟨i, g1, g2⟩ := hget j o ho
   obtain ⟨i', g3, g4⟩ := hget j' q hq
   rw [henv j i g1] at ha
   rw [henv j' i' g3] at ha'
   exact h2.apart i i' o q a (fun e => hij (nodupN_inj hd g1 (e ▸ g3))) g2 g4 ha ha'
 have hal : ∀ (j i : Nat), p[j]? = some i → alive M i → alive M' j := by
  intro j i hj ⟨o, g1, g2⟩
  have hjl : j < M'.length := by rw [hlen]; exact (List.getElem?_eq_some_iff.1 hj).1
  obtain ⟨i', g3, g4⟩ := hget j M'[j] (by simp [hjl])
  rw [hj] at g3
  simp only [Option.some.injEq] at g3
  subst g3
  rw [g1] at g4
  simp only [Option.some.injEq] at g4
  exact ⟨o, by rw [g4]; simp [hjl], g2⟩
 refine h.to0 hk h1 hW (fun s x hx => ?_) DF
 obtain ⟨y, g1, g2⟩ := hs.look s x hx
 obtain ⟨k1, k2⟩ := h3 s y g2
 cases x with
 | v _ => simp only [selSV, Option.some.injEq] at g1; subst g1; exact ⟨k1, trivial⟩
 | el _ _ => simp only [selSV, Option.some.injEq] at g1; subst g1; exact ⟨k1, k2⟩
 | ptr j o =>
  simp only [selSV] at g1
  split at g1
  ·rename_i i hi
   simp only [Option.some.injEq] at g1; subst g1
   rw [nth_eq] at hi
   exact ⟨by rw [k1]; simp only [den, henv j i hi], hal j i hi k2⟩
  ·simp at g1
 | slc j o l c =>
  simp only [selSV] at g1
  split at g1
  ·rename_i i hi
   simp only [Option.some.injEq] at g1; subst g1
   rw [nth_eq] at hi
   exact ⟨by rw [k1]; simp only [den, henv j i hi], hal j i hi k2⟩
  ·simp at g1

/-! ### A drawn region whose order parts -/
theorem Exec.pick2 {C : Ctx} {all : List Oper} {listed : List Bool} {ends : List Nat} {n0 : Nat} {mask : List Nat} {V1 : View} {lr : List REnt} {n n' i j : Nat} {oi oj : Oper} {k : List Kt} {L : Fr} {M : List OB} {V : View} (p q : List (Nat × Bool)) (hn : n' = n + 1) (hr : rdy listed 0 all = [i, j]) (hi : nth all i = some oi) (hj : nth all j = some oj)
  (hs : sameL all listed = true) (hp : planOk all ends n (setT listed i) p = true) (hq : planOk all ends n (setT listed j) q = true)
  (h1 : Exec C ⟨.ops [oi] all lr :: .draw ⟨all, setT listed i, n, ends, n0, mask, V1, p, lr⟩ :: k, L, M⟩ V)
  (h2 : Exec C ⟨.ops [oj] all lr :: .draw ⟨all, setT listed j, n, ends, n0, mask, V1, q, lr⟩ :: k, L, M⟩ V) : Exec C ⟨.draw ⟨all, listed, n', ends, n0, mask, V1, [], lr⟩ :: k, L, M⟩ V := by
 subst hn
 refine Exec.pick (D := ⟨all, listed, n + 1, ends, n0, mask, V1, [], lr⟩) hs rfl (by simp only; rw [hr]; simp) fun x hx o ho => ?_
 simp only at hx ho ⊢
 rw [hr] at hx
 simp only [List.mem_cons, List.not_mem_nil, or_false] at hx
 rcases hx with rfl | rfl
 ·rw [hi] at ho; simp only [Option.some.injEq] at ho; subst ho; exact ⟨p, hp, h1⟩
 ·rw [hj] at ho; simp only [Option.some.injEq] at ho; subst ho; exact ⟨q, hq, h2⟩

/-! ### Several rows handed over -/
def SpecR (P : Program) (f : Nat) (args : List Value) (rs : List RowD) (V : View) (R : View → Value → List RowD → Prop) : Prop :=
 IsFn P f ∧ ∀ FR env w, WOk V FR env V (rs.map RowD.ob) w → Calls P f ⟨args⟩ w fun e w' => ∃ v V' env' rs', e = .returned v ∧ rs'.length = rs.length ∧ WOk V FR env' V' (rs'.map RowD.ob) w' ∧ R V' v rs'
def RowsEnd (n : Nat) (R : View → Value → List RowD → Prop) (V : View) (v : Value) (M : List OB) : Prop := ∃ rs' : List RowD, takeL n M = rs'.map RowD.ob ∧ rs'.length = n ∧ R V v rs'
theorem takeL_eq {α : Type} : ∀ (n : Nat) (l : List α), takeL n l = l.take n
 | 0, l => by simp [takeL]
 | n + 1, [] => by simp [takeL]
 | n + 1, a :: l => by simp [takeL, takeL_eq n l]
theorem rows_get {rs : List RowD} {i : Nat} {o : OB} (h : (rs.map RowD.ob)[i]? = some o) : ∃ r, rs[i]? = some r ∧ o = .row r.x r.cs r.e r.sz := by
 rw [List.getElem?_map] at h
 cases hr : rs[i]? with
 | none => rw [hr] at h; simp at h
 | some r => rw [hr] at h; simp at h; exact ⟨r, rfl, h.symm⟩
theorem WOk.rows {V0 V : View} {FR : Frm} {env : List Nat} {M : List OB} {w : World} (h : WOk V0 FR env V M w) {rs : List RowD} {n : Nat} (hM : takeL n M = rs.map RowD.ob) : WOk V0 FR (env.take n) V (rs.map RowD.ob) w := by
 rw [takeL_eq] at hM
 have hget : ∀ (i : Nat) (o : OB), (rs.map RowD.ob)[i]? = some o → M[i]? = some o ∧ i < n ∧ ∃ r : RowD, o = .row r.x r.cs r.e r.sz := by
  intro i o ho
  obtain ⟨r, _, hr⟩ := rows_get ho
  rw [← hM, List.getElem?_take] at ho
  split at ho
  ·rename_i hi; exact ⟨ho, hi, r, hr⟩
  ·simp at ho
 refine ⟨h.os, h.tape, h.output, h.frame, h.le, h.holds, h.fresh, ?_, ?_, ?_, ?_, ?_⟩
 ·rw [← hM]; simp [h.len]
 ·intro i o ho
  obtain ⟨g1, g2, r, rfl⟩ := hget i o ho
  exact h.sat i _ g1
 ·intro i o a ho ha
  obtain ⟨g1, g2, r, rfl⟩ := hget i o ho
  exact h.apartV i _ a g1 ha
 ·intro i o a ho ha
  obtain ⟨g1, g2, r, rfl⟩ := hget i o ho
  exact h.apartF i _ a g1 ha
 ·intro i j o q a hij ho hq ha ha'
  obtain ⟨g1, g2, r, rfl⟩ := hget i o ho
  obtain ⟨g3, g4, r', rfl⟩ := hget j q hq
  exact h.apart i j _ _ a hij g1 g3 ha ha'
theorem SpecR.enter {P : Program} {T : List TyD} {f nt : Nat} {fn : Func} {c : Code} {args : List Value} {rs : List RowD} {M : List OB} {V : View} {R : View → Value → List RowD → Prop} {L : Fr}
  (hf : P.funcs[f]? = some fn) (hb : fn.body = some c) (hname : (fn.name == "runtime.NumGoroutine") = false) (hnt : fn.ntmps = nt) (hlen : Nat.ble args.length nt = true) (hL : argFr 0 args = L) (hM : rs.map RowD.ob = M)
  (h : Exec ⟨P, T, fn, nt, V, RowsEnd rs.length R⟩ ⟨[.code c], L, M⟩ V) : SpecR P f args rs V R := by
 subst hM
 refine ⟨⟨fn, hf, by rw [hb]; rfl, hname⟩, fun FR env w hW => ?_⟩
 have hle := Nat.le_of_ble_eq_true hlen
 have hcall := calls_of_wp (P := P) (f := f) (args := ⟨args⟩) (w := w) (R := endP ⟨P, T, fn, nt, V, RowsEnd rs.length R⟩ FR) hf hb (by
  refine h.to0 (k := [.code c]) rfl (FR := FR) (env := env) (t := (⟨args⟩ : Array Value) ++ Array.replicate (fn.ntmps - args.length) undef) ?_ hW ?_ .none
  ·simp [hnt]; omega
  ·intro s x hx
   rw [← hL] at hx
   obtain ⟨v, rfl, _, h2⟩ := argFr_look args 0 s x hx
   refine ⟨?_, trivial⟩
   have hs : s < args.length := (List.getElem?_eq_some_iff.1 h2).1
   rw [Array.getElem?_append]
   simpa [hs, den] using h2)
 refine hcall.mono fun e w' hp => ?_
 obtain ⟨v, env', V', M', h1, hW', rs', hM', hl', hR⟩ := hp
 exact ⟨v, V', env'.take rs.length, rs', h1, hl', hW'.rows hM', hR⟩
def putAll (M : List OB) : List Nat → List OB → Option (List OB)
 | [], [] => some M
 | i :: is, b :: bs => match setN M i b with
  | some M1 => putAll M1 is bs
  | none => none
 | _, _ => none
def wrAll (k : List Kt) : List Nat → Bool
 | [] => true
 | i :: is => match wrOk i k with
  | true => wrAll k is
  | false => false
theorem putAll_sound : ∀ {is : List Nat} {bs : List OB} {M M' : List OB}, putAll M is bs = some M' → (∀ b ∈ bs, b ≠ .gone) →
  M'.length = M.length ∧ bs.length = is.length ∧ (∀ (j : Nat) (q : OB), M'[j]? = some q → (∃ p : Nat, is[p]? = some j ∧ bs[p]? = some q) ∨ (j ∉ is ∧ M[j]? = some q)) ∧ (∀ i, alive M i → alive M' i)
 | [], [], M, M', h, _ => by simp only [putAll, Option.some.injEq] at h; subst h; simp
 | [], _ :: _, M, M', h, _ => by simp [putAll] at h
 | _ :: _, [], M, M', h, _ => by simp [putAll] at h
 | i :: is, b :: bs, M, M', h, hb => by
  simp only [putAll] at h
  split at h
  ·rename_i M1 h1
   obtain ⟨hi, rfl⟩ := setN_sound h1
   obtain ⟨e1, e2, e3, e4⟩ := putAll_sound h (fun b' hb' => hb b' (by simp [hb']))
   refine ⟨by rw [e1]; simp, by simp [e2], ?_, fun j hj => e4 j (alive_set (hb b (by simp)) hj)⟩
   intro j q hq
   rcases e3 j q hq with ⟨p, g1, g2⟩ | ⟨g1, g2⟩
   ·exact .inl ⟨p + 1, by simpa using g1, by simpa using g2⟩
   ·rw [List.getElem?_set] at g2
    split at g2
    ·rename_i hij
     subst hij
     simp [hi] at g2
     exact .inl ⟨0, rfl, by simp [g2]⟩
    ·rename_i hij
     exact .inr ⟨by simp only [List.mem_cons, not_or]; exact ⟨fun e => hij e.symm, g1⟩, g2⟩
  ·simp at h
theorem DOk.writeAll {DF : DFr} {env : List Nat} {V : View} {rest all : List Oper} {lr : List REnt} {k : List Kt} : ∀ {is : List Nat} {bs : List OB} {M M' : List OB}, putAll M is bs = some M' → wrAll k is = true →
  DOk DF env V M (.ops rest all lr :: k) → DOk DF env V M' (.ops rest all lr :: k)
 | [], [], M, M', h, _, hD => by simp only [putAll, Option.some.injEq] at h; subst h; exact hD
 | [], _ :: _, M, M', h, _, _ => by simp [putAll] at h
 | _ :: _, [], M, M', h, _, _ => by simp [putAll] at h
 | i :: is, b :: bs, M, M', h, hk, hD => by
  simp only [putAll] at h
  simp only [wrAll] at hk
  split at hk
  ·rename_i hk1
   split at h
   ·rename_i M1 h1
    obtain ⟨hi, rfl⟩ := setN_sound h1
    exact DOk.writeAll h hk (DOk.write hk1 hD)
   ·simp at h
  ·simp at hk
theorem ROk.alive {env : List Nat} {M M' : List OB} {lr : List REnt} {t : Array Value} (h : ROk env M lr t) (hal : ∀ i, alive M i → alive M' i) : ROk env M' lr t := fun s e he =>
 ⟨fun hc => ⟨((h s e he).1 hc).1, SV.ok_mono hal ((h s e he).1 hc).2⟩, (h s e he).2⟩
theorem LOk.alive {env : List Nat} {M M' : List OB} {L : Fr} {t : Array Value} (h : LOk env M L t) (hal : ∀ i, alive M i → alive M' i) : LOk env M' L t := fun s x hx => ⟨(h s x hx).1, SV.ok_mono hal (h s x hx).2⟩
open Classical in

theorem Exec.callR {C : Ctx} (is : List Nat) {o : Oper} {rest all : List Oper} {lr : List REnt} {k : List Kt} {L : Fr} {M : List OB} {V : View} {d f : Nat} {args : List Value} {rs : List RowD} {bs : List OB} {R : View → Value → List RowD → Prop}
  (hh : headOf C.nt all lr L o = some ([], d)) (hc : callOf (opd L lr) [] o.op = some (f, args)) (hi : pickMem M is = some bs) (hbs : bs = rs.map RowD.ob) (hnd : nodupN is = true) (hk : wrAll k is = true) (hs : SpecR C.P f args rs V R)
  (h : ∀ V' v rs', VLe V V' → R V' v rs' → ∃ M', putAll M is (rs'.map RowD.ob) = some M' ∧ Exec C ⟨.ops rest all (⟨d, [], .v v, d⟩ :: lr) :: k, (d, .v v) :: L, M'⟩ V') : Exec C ⟨.ops (o :: rest) all lr :: k, L, M⟩ V := by
 subst hbs
 refine Exec.of fun FR DF env t w h1 h2 h3 h4 h5 => ?_
 obtain ⟨hg, hd, hn, hf, _⟩ := headOf_some hh
 have hdt : d < t.size := by rw [h1]; simpa [Nat.blt_eq] using hn
 have hw := guard_sound h4 hg
 show wpList C.P ⟨all⟩ (post C FR DF k) (o :: rest) ⟨t, []⟩ w
 refine wpList_want ?_
 rw [if_pos (hw.2 trivial)]
 obtain ⟨hfn, hcall⟩ := hs
 unfold Oper.wp
 rw [callOf_wp (opd_sound h3 h4) (G := []) trivial hc hfn w]
 obtain ⟨hlen, hget⟩ := pickMem_sound hi
 -- whose blocks are handed over
 let Hd : Nat → Prop := fun b => ∃ r ∈ rs, r.x.ownBlock = some b
 have hHd : ∀ b, Hd b → ∃ (i : Nat) (r : RowD), i ∈ is ∧ M[i]? = some (.row r.x r.cs r.e r.sz) ∧ r.x.ownBlock = some b := by
  intro b ⟨r, hr, hb⟩
  obtain ⟨j, hj⟩ := List.mem_iff_getElem?.1 hr
  obtain ⟨i, g1, g2⟩ := hget j r.ob (by rw [List.getElem?_map, hj]; rfl)
  exact ⟨i, r, List.mem_of_getElem? g1, g2, hb⟩
 let FR' : Frm := ⟨w.os, w.tape, w.output, fun b => if Hd b then none else w.heap[b]?⟩
 have hFR' : ∀ b, FR'.blk b = none → Hd b ∨ w.heap.size ≤ b := by
  intro b hb
  simp only [FR'] at hb
  split at hb
  ·rename_i h; exact .inl h
  ·right
   refine Nat.le_of_not_lt fun hl => ?_
   simp [hl] at hb
 have hFRn : ∀ b, w.heap.size ≤ b → FR.blk b = none := by
  intro b hb
  cases hv : FR.blk b with
  | none => rfl
  | some x =>
   have := h2.frame b x hv
   have := (Array.getElem?_eq_some_iff.1 this).1
   omega
 have hHdF : ∀ b, Hd b → FR.blk b = none := by
  intro b hb
  obtain ⟨i, r, _, g2, g3⟩ := hHd b hb
  exact h2.apartF i _ ⟨b, 0, none⟩ g2 g3
 have hkeep : ∀ b, ¬ Hd b → FR'.blk b = w.heap[b]? := fun b hb => if_neg hb
 have hW0 : WOk V FR' (List.replicate rs.length 0) V (rs.map RowD.ob) w := by
  refine ⟨rfl, rfl, rfl, fun b o ho => ?_, VLe.refl V, h2.holds, fun _ _ h => .inl h, by simp, ?_, ?_, ?_, ?_⟩
  ·simp only [FR'] at ho
   split at ho
   ·simp at ho
   ·exact ho
  ·intro j o ho
   obtain ⟨r, _, rfl⟩ := rows_get ho
   obtain ⟨i, _, g2⟩ := hget j _ ho
   exact h2.sat i _ g2
  ·intro j o a ho ha
   obtain ⟨r, _, rfl⟩ := rows_get ho
   obtain ⟨i, _, g2⟩ := hget j _ ho
   exact h2.apartV i _ a g2 ha
  ·intro j o a ho ha
   obtain ⟨r, hr, rfl⟩ := rows_get ho
   exact if_pos ⟨r, List.mem_of_getElem? hr, ha⟩
  ·intro j j' o q a hij ho hq ha ha'
   obtain ⟨r, _, rfl⟩ := rows_get ho
   obtain ⟨r', _, rfl⟩ := rows_get hq
   obtain ⟨i, g1, g2⟩ := hget j _ ho
   obtain ⟨i', g3, g4⟩ := hget j' _ hq
   exact h2.apart i i' _ _ a (fun e => hij (nodupN_inj hnd g1 (e ▸ g3))) g2 g4 ha ha'
 refine (hcall FR' _ w hW0).mono fun e' w' ⟨v, V', env', rs', p1, p2, p3, p4⟩ => ?_
 subst p1
 obtain ⟨M', hM', hE⟩ := h V' v rs' p3.le p4
 obtain ⟨e1, e2, e3, e4⟩ := putAll_sound hM' (fun b hb => by
  obtain ⟨r, _, rfl⟩ := List.mem_map.1 hb
  simp [RowD.ob])
 have hold : ∀ (j : Nat) (q : OB), j ∉ is → M[j]? = some q → ∀ a : Addr, q.own (envAt env j) a → ¬ Hd a.block ∧ a.block < w.heap.size := by
  intro j q hj hq a ha
  refine ⟨fun hh => ?_, OB.own_lt (h2.sat j q hq) ha⟩
  obtain ⟨i, r, g1, g2, g3⟩ := hHd _ hh
  exact h2.apart j i q _ a (fun e => hj (e ▸ g1)) hq g2 ha g3
 have hW' : WOk C.V0 FR env V' M' w' := by
  refine ⟨p3.os.trans h2.os, p3.tape.trans h2.tape, p3.output.trans h2.output, ?_, h2.le.trans p3.le, p3.holds, ?_, by rw [h2.len, e1], ?_, ?_, ?_, ?_⟩
  ·intro b q hq
   have hb : ¬ Hd b := fun hb => by rw [hHdF b hb] at hq; simp at hq
   exact p3.frame b q (by rw [hkeep b hb]; exact h2.frame b q hq)
  ·intro a x hx
   rcases p3.fresh a x hx with g | g
   ·exact h2.fresh a x g
   ·rcases hFR' _ g with g | g
    ·exact .inr (hHdF _ g)
    ·exact .inr (hFRn _ g)
  ·intro j q hq
   rcases e3 j q hq with ⟨p, g1, g2⟩ | ⟨g1, g2⟩
   ·obtain ⟨r, _, rfl⟩ := rows_get g2
    exact p3.sat p _ g2
   ·refine OB.sat_of rfl (fun _ _ => rfl) (fun x => SV.ok_mono e4) (h2.sat j q g2) fun b hb => ?_
    obtain ⟨n1, n2⟩ := hold j q g1 g2 _ hb
    have hex : w.heap[b]? = some w.heap[b] := by simp [n2]
    rw [hex]
    exact p3.frame b _ (by rw [hkeep b n1]; exact hex)
  ·intro j q a hq ha
   rcases e3 j q hq with ⟨p, g1, g2⟩ | ⟨g1, g2⟩
   ·obtain ⟨r, _, rfl⟩ := rows_get g2
    exact p3.apartV p _ a g2 ha
   ·obtain ⟨n1, n2⟩ := hold j q g1 g2 _ ha
    cases hv : V' a with
    | none => rfl
    | some x =>
     rcases p3.fresh a x hv with g | g
     ·rw [h2.apartV j q a g2 ha] at g; simp at g
     ·rcases hFR' _ g with g | g
      ·exact absurd g n1
      ·omega
  ·intro j q a hq ha
   rcases e3 j q hq with ⟨p, g1, g2⟩ | ⟨g1, g2⟩
   ·obtain ⟨r, _, rfl⟩ := rows_get g2
    rcases hFR' _ (p3.apartF p _ a g2 ha) with g | g
    ·exact hHdF _ g
    ·exact hFRn _ g
   ·exact h2.apartF j q a g2 ha
  ·intro j j' q q' a hij hq hq' ha ha'
   rcases e3 j q hq with ⟨p, g1, g2⟩ | ⟨g1, g2⟩
   ·obtain ⟨r, _, rfl⟩ := rows_get g2
    rcases e3 j' q' hq' with ⟨p', g3, g4⟩ | ⟨g3, g4⟩
    ·obtain ⟨r', _, rfl⟩ := rows_get g4
     exact p3.apart p p' _ _ a (fun e => hij (by subst e; rw [g1] at g3; simpa using g3)) g2 g4 ha ha'
    ·obtain ⟨n1, n2⟩ := hold j' q' g3 g4 _ ha'
     rcases hFR' _ (p3.apartF p _ a g2 ha) with g | g
     ·exact n1 g
     ·omega
   ·obtain ⟨n1, n2⟩ := hold j q g1 g2 _ ha
    rcases e3 j' q' hq' with ⟨p', g3, g4⟩ | ⟨g3, g4⟩
    ·obtain ⟨r', _, rfl⟩ := rows_get g4
     rcases hFR' _ (p3.apartF p' _ a g4 ha') with g | g
     ·exact n1 g
     ·omega
    ·exact h2.apart j j' q q' a hij g2 g4 ha ha'
 simp only [Act.put, hd]
 exact hE.to FR DF env (t.setIfInBounds d v) w' (by simpa using h1) hW' ((h3.alive e4).put (x := .v v) hdt trivial) ((h4.alive e4).put hdt hf (fun _ => rfl) (fun hn => absurd trivial hn) rfl (.inl rfl) (fun _ => trivial))
  (DOk.grow (M := M') ⟨[], by simp⟩ p3.le ⟨[], by simp⟩ (DOk.writeAll hM' hk h5.same))

/-! ### A block of the call's own becomes a row -/
def substQ (i b : Nat) : SV → SV
 | .ptr j o => match Nat.beq j i with
  | true => .v (.pointer (some ⟨b, o, none⟩))
  | false => .ptr j o
 | .slc j o n c => match Nat.beq j i with
  | true => .v (.slice (some ⟨b, o, none⟩) n c)
  | false => .slc j o n c
 | x => x
def substL (i b : Nat) : Fr → Fr
 | [] => []
 | (s, x) :: L => (s, substQ i b x) :: substL i b L
def substE (i b : Nat) : List REnt → List REnt
 | [] => []
 | ⟨s, c, x, r⟩ :: L => ⟨s, c, substQ i b x, r⟩ :: substE i b L
theorem substQ_den {i b : Nat} {env : List Nat} (hb : envAt env i = b) (x : SV) : den env (substQ i b x) = den env x ∧ ∀ M : List OB, x.ok M → (substQ i b x).ok M := by
 cases x with
 | v _ => exact ⟨rfl, fun _ h => h⟩
 | el _ _ => exact ⟨rfl, fun _ h => h⟩
 | ptr j o =>
  simp only [substQ]
  split
  ·rename_i hj
   have := beq_nat hj
   subst this
   exact ⟨by simp [den, hb], fun _ _ => trivial⟩
  ·exact ⟨rfl, fun _ h => h⟩
 | slc j o n c =>
  simp only [substQ]
  split
  ·rename_i hj
   have := beq_nat hj
   subst this
   exact ⟨by simp [den, hb], fun _ _ => trivial⟩
  ·exact ⟨rfl, fun _ h => h⟩
theorem substL_look {i b : Nat} : ∀ {L : Fr} {s : Nat} {x : SV}, lookL (substL i b L) s = some x → ∃ y, lookL L s = some y ∧ x = substQ i b y
 | [], s, x, h => by simp [substL, lookL] at h
 | (d, y) :: L, s, x, h => by
  simp only [substL, lookL_cons] at h ⊢
  split at h
  ·rename_i hd
   simp only [Option.some.injEq] at h
   rw [if_pos hd]
   exact ⟨y, rfl, h.symm⟩
  ·rename_i hd
   rw [if_neg hd]
   exact substL_look h
theorem substE_look {i b : Nat} : ∀ {lr : List REnt} {s : Nat} {e : REnt}, lookR (substE i b lr) s = some e → ∃ e', lookR lr s = some e' ∧ e'.c = e.c ∧ e'.r = e.r ∧ e.x = substQ i b e'.x
 | [], s, e, h => by simp [substE, lookR] at h
 | ⟨d, c, y, r⟩ :: lr, s, e, h => by
  simp only [substE, lookR_cons] at h ⊢
  split at h
  ·rename_i hd
   simp only [Option.some.injEq] at h
   subst h
   rw [if_pos hd]
   exact ⟨_, rfl, rfl, rfl, rfl⟩
  ·rename_i hd
   rw [if_neg hd]
   exact substE_look h
theorem Exec.fixR {C : Ctx} (i : Nat) {n sz ty : Nat} {cs : List Value} {rest all : List Oper} {lr : List REnt} {k : List Kt} {L : Fr} {M : List OB} {V : View} {M' : Nat → List OB} {L' : Nat → Fr} {lr' : Nat → List REnt} {sv : List SV}
  (hk : wrOk i k = true) (hi : nth M i = some (.blk sv ty)) (hv : vals sv = some cs) (hl : Nat.beq cs.length (n * sz) = true) (hn : Nat.ble n 1000000 = true) (hs : ∀ b, setN M i (.row (.slice (some ⟨b, 0, none⟩) n n) cs ty sz) = some (M' b))
  (hL : ∀ b, substL i b L = L' b) (hR : ∀ b, substE i b lr = lr' b)
  (h : ∀ b, Exec C ⟨.ops rest all (lr' b) :: k, L' b, M' b⟩ V) : Exec C ⟨.ops rest all lr :: k, L, M⟩ V := by
 refine Exec.of fun FR DF env t w h1 h2 h3 h4 h5 => ?_
 rw [nth_eq] at hi
 have hsat := (h2.sat i _ hi).1
 rw [vals_sound (env := env) hv] at hsat
 have hl := beq_nat hl
 have hn : n ≤ maxLen := Nat.le_trans (Nat.le_of_ble_eq_true hn) (by simp [maxLen])
 have hrow : rowSat w ty sz (.slice (some ⟨envAt env i, 0, none⟩) n n) cs := ⟨n, hl, .inr ⟨_, n, _, rfl, Nat.zero_le _, hsat, Nat.le_refl _, hn, by simp [hl], by simp [← hl]⟩⟩
 have hW := h2.upd (w' := w) (o' := .row (.slice (some ⟨envAt env i, 0, none⟩) n n) cs ty sz) hi (by simp) rfl rfl rfl (fun _ _ _ => rfl) hrow (fun a ha => .inl (by
  simp only [OB.own, Value.ownBlock, Option.some.injEq] at ha ⊢
  exact ha.symm))
 obtain ⟨_, hM'⟩ := setN_sound (hs (envAt env i))
 have hal : ∀ q, alive M q → alive (M' (envAt env i)) q := fun q hq => by rw [hM']; exact alive_set (by simp) hq
 refine (h (envAt env i)).to FR DF env t w h1 (by rw [hM']; exact hW) (fun s x hx => ?_) (fun s e he => ?_) (by
  show DOk DF env V (M' (envAt env i)) _
  rw [hM']
  exact DOk.write hk h5.same)
 ·rw [← hL] at hx
  obtain ⟨y, k1, rfl⟩ := substL_look hx
  obtain ⟨k4, k5⟩ := h3 s y k1
  obtain ⟨q1, q2⟩ := substQ_den (env := env) (i := i) rfl y
  exact ⟨by rw [k4, q1], SV.ok_mono hal (q2 M k5)⟩
 ·have he : lookR (lr' (envAt env i)) s = some e := he
  rw [← hR] at he
  obtain ⟨e', k1, k2, k3, k4⟩ := substE_look he
  have hh4 : ROk env M lr t := h4
  obtain ⟨g1, g2, g3⟩ := hh4 s e' k1
  obtain ⟨q1, q2⟩ := substQ_den (env := env) (i := i) rfl e'.x
  rw [k2] at g1 g2
  rw [k3] at g3
  exact ⟨fun hc => ⟨by rw [(g1 hc).1, k4, q1], by rw [k4]; exact SV.ok_mono hal (q2 M (g1 hc).2)⟩, g2, g3⟩
end Go.Proofs.YtglnnhmmipopiaaGreat

set_option linter.all false
namespace Go.Proofs.YtglnnhmmipopiaaGreat
section
variable {C : Ctx}
theorem Exec.memS {σ : Type} (x : σ → SV) (M' : σ → List OB) {o : Oper} {rest all : List Oper} {lr : List REnt} {k : List Kt} {L : Fr} {M : List OB} {V : View} {d : Nat} (hh : headOf C.nt all lr L o = some ([], d))
  (hy : ∀ FR env t w, WOk C.V0 FR env V M w → LOk env M L t → ROk env M lr t → ∃ q env' w', (∃ r, env' = env ++ r) ∧ WOk C.V0 FR env' V (M' q) w' ∧ (∀ L, LOk env M L t → LOk env' (M' q) L t) ∧
   (∀ lr, ROk env M lr t → ROk env' (M' q) lr t) ∧ (x q).ok (M' q) ∧ (execOp (⟨t, []⟩ : Act).eval o).run C.P w = .ok (.value (den env' (x q))) w')
  (hD : ∀ q, (∃ r, M' q = M ++ r) ∨ ∃ i b, M' q = M.set i b ∧ wrOk i k = true)
  (h : ∀ q, Exec C ⟨.ops rest all (⟨d, [], x q, d⟩ :: lr) :: k, (d, x q) :: L, M' q⟩ V) : Exec C ⟨.ops (o :: rest) all lr :: k, L, M⟩ V := by
 refine Exec.of fun FR DF env t w h1 h2 h3 h4 h5 => ?_
 obtain ⟨hg, hd, hn, hf, _⟩ := headOf_some hh
 have hdt : d < t.size := by rw [h1]; simpa [Nat.blt_eq] using hn
 obtain ⟨q, env', w', j1, k1, k2, k3, k4, k5⟩ := hy FR env t w h2 h3 h4
 have hw := guard_sound h4 hg
 show wpList C.P ⟨all⟩ (post C FR DF k) (o :: rest) ⟨t, []⟩ w
 refine wpList_want ?_
 rw [if_pos (hw.2 trivial)]
 refine wp_value k5 ?_
 simp only [Act.put, hd]
 refine (h q).to FR DF env' (t.setIfInBounds d (den env' (x q))) w' (by simpa using h1) k1 ((k2 _ h3).put hdt k4)
  ((k3 _ h4).put hdt hf (fun _ => rfl) (fun hn => absurd trivial hn) rfl (.inl rfl) (fun _ => k4)) ?_
 show DOk DF env' V (M' q) _
 rcases hD q with hD | ⟨i, b, hm, hk⟩
 ·exact DOk.grow j1 (VLe.refl V) hD h5.same
 ·rw [hm]; exact DOk.grow (M := M.set i b) j1 (VLe.refl V) ⟨[], by simp⟩ (DOk.write (M := M) hk h5.same)
theorem Exec.rowS {σ : Type} (i : Nat) (v : σ → Value) (b : σ → OB) (M' : σ → List OB) {o : Oper} {rest all : List Oper} {lr : List REnt} {k : List Kt} {L : Fr} {M : List OB} {V : View} {d : Nat} (hh : headOf C.nt all lr L o = some ([], d))
  (hb : ∀ q, b q ≠ .gone) (hs : ∀ q, setN M i (b q) = some (M' q)) (hk : wrOk i k = true)
  (hy : ∀ FR env t w, WOk C.V0 FR env V M w → LOk env M L t → ROk env M lr t → ∃ q w', WOk C.V0 FR env V (M.set i (b q)) w' ∧ (execOp (⟨t, []⟩ : Act).eval o).run C.P w = .ok (.value (v q)) w')
  (h : ∀ q, Exec C ⟨.ops rest all (⟨d, [], .v (v q), d⟩ :: lr) :: k, (d, .v (v q)) :: L, M' q⟩ V) : Exec C ⟨.ops (o :: rest) all lr :: k, L, M⟩ V := by
 refine Exec.memS (fun q => .v (v q)) M' hh (fun FR env t w h2 h3 h4 => ?_) (fun q => .inr ⟨i, b q, (setN_sound (hs q)).2, hk⟩) h
 obtain ⟨q, w', g1, g2⟩ := hy FR env t w h2 h3 h4
 have hM' := (setN_sound (hs q)).2
 have hal : ∀ j, alive M j → alive (M' q) j := fun j hj => by rw [hM']; exact alive_set (hb q) hj
 exact ⟨q, env, w', ⟨[], by simp⟩, by rw [hM']; exact g1, fun L hL => hL.alive hal, fun lr hl => hl.alive hal, trivial, g2⟩
theorem Exec.rowN (i : Nat) {v : Value} {b : OB} {M' : List OB} {o : Oper} {rest all : List Oper} {lr : List REnt} {k : List Kt} {L : Fr} {M : List OB} {V : View} (hg : guardC all lr o.guard = some []) (hd : o.dst = none)
  (hb : b ≠ .gone) (hs : setN M i b = some M') (hk : wrOk i k = true)
  (hy : ∀ FR env t w, WOk C.V0 FR env V M w → LOk env M L t → ROk env M lr t → ∃ w', WOk C.V0 FR env V (M.set i b) w' ∧ (execOp (⟨t, []⟩ : Act).eval o).run C.P w = .ok (.value v) w')
  (h : Exec C ⟨.ops rest all lr :: k, L, M'⟩ V) : Exec C ⟨.ops (o :: rest) all lr :: k, L, M⟩ V := by
 obtain ⟨_, rfl⟩ := setN_sound hs
 refine Exec.of fun FR DF env t w h1 h2 h3 h4 h5 => ?_
 obtain ⟨w', g1, g2⟩ := hy FR env t w h2 h3 h4
 have hw := guard_sound h4 hg
 show wpList C.P ⟨all⟩ (post C FR DF k) (o :: rest) ⟨t, []⟩ w
 refine wpList_want ?_
 rw [if_pos (hw.2 trivial)]
 refine wp_value g2 ?_
 simp only [Act.put, hd]
 exact h.to FR DF env t w' h1 g1 (h3.set hb) (h4.set hb) (DOk.write hk h5.same)
theorem Exec.rowA (i : Nat) {k : List Kt} {L : Fr} {M : List OB} {V : View} {n c e sz : Nat} {a : Option Addr} {cs : List Value} (hi : nth M i = some (.row (.slice a n c) cs e sz))
  (h : cs.length = n * sz → n ≤ c → c ≤ maxLen → (a = none → n = 0 ∧ c = 0) → (∀ p, a = some p → ∃ g, p = ⟨g, 0, none⟩) → Exec C ⟨k, L, M⟩ V) : Exec C ⟨k, L, M⟩ V := by
 refine Exec.of fun FR DF env t w h1 h2 h3 h4 h5 => ?_
 have hi' := hi
 rw [nth_eq] at hi'
 have hsat := h2.sat i _ hi'
 obtain ⟨r1, r2, r3, r4⟩ := rowSat_some hsat
 refine (h r1 r2 ?_ ?_ ?_).to FR DF env t w h1 h2 h3 h4 h5
 ·rcases r4.2 with ⟨hv, _⟩ | ⟨g, cap, cur, hv, _, _, _, k4, _⟩
  ·simp only [Value.slice.injEq] at hv; rw [hv.2.2]; exact Nat.zero_le _
  ·simp only [Value.slice.injEq] at hv; rw [hv.2.2]; exact k4
 ·intro ha
  rcases r3 with ⟨_, h⟩ | ⟨g, h⟩
  ·exact h
  ·rw [h] at ha; simp at ha
 ·intro p hp
  rcases r3 with ⟨h, _⟩ | ⟨g, h⟩
  ·rw [h] at hp; simp at hp
  ·rw [h] at hp; simp only [Option.some.injEq] at hp; exact ⟨g, hp.symm⟩
theorem rowSat_cur {w : World} {e sz b n c : Nat} {cs : List Value} (h : rowSat w e sz (.slice (some ⟨b, 0, none⟩) n c) cs) :
  ∃ cur, w.heap[b]? = some (.cells cur e (0, 0)) ∧ n ≤ c ∧ c ≤ maxLen ∧ cur.size = c * sz ∧ cs.length = n * sz ∧ cur.toList.take (n * sz) = cs := by
 obtain ⟨r1, r2, r3, r4⟩ := rowSat_some h
 rcases r4.2 with ⟨hv, _⟩ | ⟨g, cap, cur, hv, k1, k2, k3, k4, k5, k6⟩
 ·simp at hv
 simp only [Value.slice.injEq, Option.some.injEq, Addr.mk.injEq, true_and, and_true] at hv
 obtain ⟨rfl, rfl⟩ := hv
 exact ⟨cur, k2, k3, k4, k5, r1, k6⟩
theorem rowSat_mk {w : World} {e sz b n c : Nat} {cs : List Value} {cur : Array Value} (h1 : w.heap[b]? = some (.cells cur e (0, 0))) (h2 : n ≤ c) (h3 : c ≤ maxLen) (h4 : cur.size = c * sz) (h5 : cs.length = n * sz) (h6 : cur.toList.take (n * sz) = cs) :
  rowSat w e sz (.slice (some ⟨b, 0, none⟩) n c) cs := ⟨n, h5, .inr ⟨b, c, cur, rfl, Nat.zero_le _, h1, h2, h3, h4, h6⟩⟩
theorem put_take {cur cs nv : List Value} {m off : Nat} (hc : cur.take m = cs) (hm : cs.length = m) (hoff : off + nv.length ≤ m) (hl : m ≤ cur.length) :
  (cur.take off ++ nv ++ cur.drop (off + nv.length)).take m = cs.take off ++ nv ++ cs.drop (off + nv.length) := by
 subst hc
 rw [List.take_append, List.take_append, List.take_take, List.take_take]
 simp only [List.length_append, List.length_take]
 rw [Nat.min_eq_left (by omega : off ≤ m), Nat.min_eq_right (by omega : off ≤ m), List.drop_take, List.take_of_length_le (by omega : nv.length ≤ _)]
 congr 2
 rw [Nat.min_eq_left (by omega)]
theorem rowSat_put {w : World} {e sz b n c off : Nat} {cs nv : List Value} (h : rowSat w e sz (.slice (some ⟨b, 0, none⟩) n c) cs) (hoff : off + nv.length ≤ cs.length) :
  ∃ cur, w.heap[b]? = some (.cells cur e (0, 0)) ∧ off + nv.length ≤ cur.size ∧
   rowSat (w.setRow b (cur.toList.take off ++ nv ++ cur.toList.drop (off + nv.length)).toArray) e sz (.slice (some ⟨b, 0, none⟩) n c) (cs.take off ++ nv ++ cs.drop (off + nv.length)) := by
 obtain ⟨cur, k2, k3, k4, k5, r1, k6⟩ := rowSat_cur h
 have hcl : cs.length ≤ cur.size := by rw [r1, k5]; exact Nat.mul_le_mul_right _ k3
 refine ⟨cur, k2, by omega, rowSat_mk (setRow_heap w b cur _ e _ k2) k3 k4 ?_ ?_ ?_⟩
 ·simp only [List.size_toArray, List.length_append, List.length_take, List.length_drop, Array.length_toList]; omega
 ·simp only [List.length_append, List.length_take, List.length_drop]; omega
 ·simp only
  exact put_take (m := n * sz) k6 r1 (by omega) (by rw [← r1]; simpa using hcl)
theorem rowSat_tr {w : World} {e sz n n' c : Nat} {a : Option Addr} {cs : List Value} (h : rowSat w e sz (.slice a n c) cs) (hn : n' ≤ n) : rowSat w e sz (.slice a n' c) (cs.take (n' * sz)) := by
 obtain ⟨r1, r2, r3, r4⟩ := rowSat_some h
 rcases r3 with ⟨rfl, rfl, rfl⟩ | ⟨g, rfl⟩
 ·obtain rfl : n' = 0 := by omega
  simp only [Nat.zero_mul, List.take_zero]
  exact ⟨0, World.ownsRow_nil _ _ _ _⟩
 ·obtain ⟨cur, k2, k3, k4, k5, k7, k6⟩ := rowSat_cur h
  have hm : n' * sz ≤ n * sz := Nat.mul_le_mul_right _ hn
  refine rowSat_mk k2 (by omega) k4 k5 ?_ ?_
  ·simp only [List.length_take]; omega
  ·rw [← k6, List.take_take, Nat.min_eq_left hm]
theorem Exec.rowTr (i n' : Nat) {k : List Kt} {L : Fr} {M M' : List OB} {V : View} {n c e sz : Nat} {a : Option Addr} {cs : List Value} (hi : nth M i = some (.row (.slice a n c) cs e sz)) (hn : n' ≤ n)
  (hs : setN M i (.row (.slice a n' c) (cs.take (n' * sz)) e sz) = some M') (hk : plainK k = true) (h : Exec C ⟨k, L, M'⟩ V) : Exec C ⟨k, L, M⟩ V := by
 obtain ⟨_, rfl⟩ := setN_sound hs
 rw [nth_eq] at hi
 refine Exec.of fun FR DF env t w h1 h2 h3 h4 h5 => ?_
 have hW := h2.upd (w' := w) (o' := .row (.slice a n' c) (cs.take (n' * sz)) e sz) hi (by simp) rfl rfl rfl (fun _ _ _ => rfl) (rowSat_tr (h2.sat i _ hi) hn) (fun p hp => .inl (by cases a <;> exact hp))
 exact h.to FR DF env t w h1 hW (h3.set (by simp)) (h4.set (by simp)) (plainK_D hk _ _ _ _)
theorem Exec.rowEx (i m : Nat) {k : List Kt} {L : Fr} {M : List OB} {M' : List Value → List OB} {V : View} {n c e sz : Nat} {a : Option Addr} {cs : List Value} (hi : nth M i = some (.row (.slice a n c) cs e sz)) (hm : n + m ≤ c)
  (hs : ∀ js, setN M i (.row (.slice a (n + m) c) (cs ++ js) e sz) = some (M' js)) (hk : plainK k = true) (h : ∀ js, js.length = m * sz → Exec C ⟨k, L, M' js⟩ V) : Exec C ⟨k, L, M⟩ V := by
 rw [nth_eq] at hi
 refine Exec.of fun FR DF env t w h1 h2 h3 h4 h5 => ?_
 have hsat : rowSat w e sz (.slice a n c) cs := h2.sat i _ hi
 have hex : ∃ js, js.length = m * sz ∧ rowSat w e sz (.slice a (n + m) c) (cs ++ js) := by
  obtain ⟨r1, r2, r3, r4⟩ := rowSat_some hsat
  rcases r3 with ⟨rfl, rfl, rfl⟩ | ⟨g, rfl⟩
  ·obtain rfl : m = 0 := by omega
   exact ⟨[], by simp, by simpa using hsat⟩
  ·obtain ⟨cur, k2, k3, k4, k5, k7, k6⟩ := rowSat_cur hsat
   have hle : n * sz + m * sz ≤ c * sz := by rw [← Nat.add_mul]; exact Nat.mul_le_mul_right _ hm
   refine ⟨(cur.toList.drop (n * sz)).take (m * sz), by simp; omega, rowSat_mk k2 hm k4 k5 ?_ ?_⟩
   ·rw [Nat.add_mul]; simp only [List.length_append, List.length_take, List.length_drop, Array.length_toList]; omega
   ·rw [← k6, Nat.add_mul]
    exact List.take_add
 obtain ⟨js, hj, hr⟩ := hex
 obtain ⟨_, hM'⟩ := setN_sound (hs js)
 have hW := h2.upd (w' := w) (o' := .row (.slice a (n + m) c) (cs ++ js) e sz) hi (by simp) rfl rfl rfl (fun _ _ _ => rfl) hr (fun p hp => .inl (by cases a <;> exact hp))
 rw [← hM'] at hW
 refine (h js hj).to FR DF env t w h1 hW ?_ ?_ (plainK_D hk _ _ _ _)
 ·rw [hM']; exact h3.set (by simp)
 ·rw [hM']; exact h4.set (by simp)
end

/-! ### Where the cells that are read stand -/
inductive Src (M : List OB) (V : View) : Option Addr → List Value → Prop where
 | nil (a : Option Addr) : Src M V a []
 | open_ {a : Option Addr} {l : List Value} (h : RdAt V a 0 l) : Src M V a l
 | row {g off : Nat} {l : List Value} (j : Nat) {n c : Nat} {cs : List Value} {e sz : Nat} (h : nth M j = some (.row (.slice (some ⟨g, 0, none⟩) n c) cs e sz)) (hl : CellsAt cs off l) : Src M V (some ⟨g, off, none⟩) l
theorem Src.cells {M : List OB} {V V0 : View} {FR : Frm} {env : List Nat} {w : World} (h2 : WOk V0 FR env V M w) {a : Option Addr} {l : List Value} (h : Src M V a l) : l = [] ∨ ∃ ad, a = some ad ∧ ∀ j u, l[j]? = some u → w.cell? (ad.add j) = some u := by
 cases h with
 | nil a => exact .inl rfl
 | open_ h =>
  obtain ⟨b, o, rfl, hc⟩ := h
  exact .inr ⟨_, rfl, fun j u hu => by rw [Addr.add_lit]; simpa using h2.holds _ _ (hc j u hu)⟩
 | row j h hl =>
  rw [nth_eq] at h
  exact .inr ⟨_, rfl, fun j u hu => by rw [Addr.add_lit]; simpa using rowSat_cell (h2.sat _ _ h) rfl hl j u hu⟩
theorem run_copyK {P : Program} (w : World) (dT sT ty elem sz : Nat) (g o dLen dCap : Nat) (a : Option Addr) (sLen sCap : Nat) (cur : Array Value) (t : TypeId) (cs : List Value)
  (hu : P.underlying dT = some (.slice elem)) (hs : ∃ i, P.info? elem = some i ∧ i.size = sz)
  (hg : w.heap[g]? = some (.cells cur t (0, 0))) (hn : cs.length = Nat.min sLen dLen * sz)
  (hsrc : cs = [] ∨ ∃ ad, a = some ad ∧ ∀ j u, cs[j]? = some u → w.cell? (ad.add j) = some u) (hfit : o + cs.length ≤ cur.size) (h1 : ∀ v ∈ cs, v.oneCell' = true) :
  (Builtin.copy_ #[dT, sT] ty #[.slice (some ⟨g, o, none⟩) dLen dCap, .slice a sLen sCap]).run P w =
   .ok (goInt (Nat.min sLen dLen)) (w.setRow g (cur.toList.take o ++ cs ++ cur.toList.drop (o + cs.length)).toArray) := by
 have hst := run_storeCells_at P g o t cs 0 cur w hg (by simpa using hfit) h1
 obtain ⟨i, hq, hi⟩ := hs
 have hf : (Builtin.firstCells sz (Nat.min sLen dLen) (.slice a sLen sCap)).run P w = .ok cs.toArray w := by
  rcases hsrc with h0 | ⟨ad, rfl, hc⟩
  ·have hz : Nat.min sLen dLen * sz = 0 := by rw [← hn, h0]; rfl
   subst h0
   cases a with
   | none => exact run_firstCells_none w sz _ sLen sCap
   | some ad => exact run_firstCells_some w sz _ ad sLen sCap [] (by simpa using hz.symm) (by simp)
  ·exact run_firstCells_some w sz _ ad sLen sCap cs hn hc
 simp only [Nat.add_zero] at hst
 simp [Builtin.copy_, run_underlying hu, Builtin.lenOf, sizeOf, typeInfo, hq, hi, hf, hst]
theorem run_clearK {P : Program} (w : World) (t e ty : TypeId) (z : Value) (ht : P.underlying t = some (.slice e)) {i : TypeInfo} (hi : P.info? e = some i) (hz : i.zero = some z)
  (g o n c : Nat) (cur : Array Value) (et : TypeId) (hg : w.heap[g]? = some (.cells cur et (0, 0))) (hfit : o + n * z.cells.size ≤ cur.size) (h1 : ∀ v ∈ z.cells.toList, v.oneCell' = true) :
  ∃ cur', (Builtin.clear_ #[t] ty #[.slice (some ⟨g, o, none⟩) n c]).run P w = .ok (.tuple #[]) (w.setRow g cur') ∧ cur'.size = cur.size ∧ cur'.toList.take o = cur.toList.take o := by
 have hlen : (Builtin.zeroCells z.cells n).toList.length = n * z.cells.size := by simp [Builtin.zeroCells]
 have hone : ∀ v ∈ (Builtin.zeroCells z.cells n).toList, v.oneCell' = true := by
  intro v hv
  simp only [Builtin.zeroCells, Array.toList_map, Array.toList_range, List.mem_map, List.mem_range] at hv
  obtain ⟨j, hj, rfl⟩ := hv
  have h0 : 0 < z.cells.size := by
   rcases Nat.eq_zero_or_pos z.cells.size with h | h
   ·rw [h] at hj; simp at hj
   ·exact h
  have hlt := Nat.mod_lt j h0
  rw [getElem!_pos z.cells (j % z.cells.size) hlt]
  exact h1 _ (by simp)
 have hst := run_storeCells_at P g o et (Builtin.zeroCells z.cells n).toList 0 cur w hg (by rw [hlen]; simpa using hfit) hone
 simp only [Nat.add_zero] at hst
 cases n with
 | zero =>
  refine ⟨cur, ?_, rfl, rfl⟩
  rw [setRow_self w g cur et (0, 0) hg]
  simp [Builtin.clear_, run_underlying ht]
 | succ n =>
  refine ⟨(cur.toList.take o ++ (Builtin.zeroCells z.cells (n + 1)).toList ++ cur.toList.drop (o + (Builtin.zeroCells z.cells (n + 1)).toList.length)).toArray, ?_, ?_, ?_⟩
  ·simp [Builtin.clear_, run_underlying ht, zeroValue, typeInfo, hi, hz, hst]
  ·simp only [List.size_toArray, List.length_append, List.length_take, List.length_drop, Array.length_toList, hlen]
   omega
  ·simp only [List.append_assoc]
   rw [List.take_append_of_le_length (by simp; omega), List.take_take, Nat.min_self]
section
variable {C : Ctx} (hT : TOk C.P C.T) {o : Oper} {rest all : List Oper} {lr : List REnt} {k : List Kt} {L : Fr} {M : List OB} {V : View} {d : Nat}
def nilOf (T : List TyD) (od : Look) (G : List (Nat × Bool)) (op : Op) : Option (Bool × Option Addr) :=
 match op with
 | .binOp .eql t x (.const (.slice none _ _)) _ => match sliceTy T t, ev od G x with
  | some _, some (.v (.slice a _ _)) => some (true, a)
  | _, _ => none
 | .binOp .neq t x (.const (.slice none _ _)) _ => match sliceTy T t, ev od G x with
  | some _, some (.v (.slice a _ _)) => some (false, a)
  | _, _ => none
 | _ => none
include hT in
theorem nil_run {env : List Nat} {t' : Array Value} {od : Look} (hO : Tells env M t' od) {G : List (Nat × Bool)} (hG : condT t' G) {b : Bool} {a : Option Addr} (hc : nilOf C.T od G o.op = some (b, a)) (w : World) :
  (execOp (⟨t', []⟩ : Act).eval o).run C.P w = .ok (.value (.bool (if b = true then a.isNone else !a.isNone))) w := by
 unfold nilOf at hc
 split at hc <;> try (simp at hc; done)
 ·rename_i t x n' c' ty hop
  split at hc <;> try (simp at hc; done)
  rename_i q a' n c hs hx
  simp only [Option.some.injEq, Prod.mk.injEq] at hc
  obtain ⟨rfl, rfl⟩ := hc
  obtain ⟨u1, _⟩ := sliceTy_sound hT hs
  unfold execOp
  have := Lib.run_eql_slice_nil (P := C.P) w t _ a' n c n' c' u1
  have e1 := ev_sound hO hG hx
  simp only [den] at e1
  simp only [hop, e1, show (⟨t', []⟩ : Act).eval (.const (.slice none n' c')) = .slice none n' c' from rfl, Sem.run_bind, if_true]
  simp [eqGuard, this]
 ·rename_i t x n' c' ty hop
  split at hc <;> try (simp at hc; done)
  rename_i q a' n c hs hx
  simp only [Option.some.injEq, Prod.mk.injEq] at hc
  obtain ⟨rfl, rfl⟩ := hc
  obtain ⟨u1, _⟩ := sliceTy_sound hT hs
  unfold execOp
  have := run_neq_slice_nil_any (P := C.P) w t _ a' n c n' c' u1
  have e1 := ev_sound hO hG hx
  simp only [den] at e1
  simp only [hop, e1, show (⟨t', []⟩ : Act).eval (.const (.slice none n' c')) = .slice none n' c' from rfl, Sem.run_bind]
  simp [eqGuard, this]
include hT in
theorem Exec.nilS {G : List (Nat × Bool)} {b : Bool} {a : Option Addr} (hh : headOf C.nt all lr L o = some (G, d)) (hc : nilOf C.T (opd L lr) G o.op = some (b, a))
  (h : Exec C ⟨.ops rest all (⟨d, G, .v (.bool (if b = true then a.isNone else !a.isNone)), d⟩ :: lr) :: k, nextL G d (.v (.bool (if b = true then a.isNone else !a.isNone))) L, M⟩ V) : Exec C ⟨.ops (o :: rest) all lr :: k, L, M⟩ V :=
 Exec.yieldsP (x := .v (.bool (if b = true then a.isNone else !a.isNone))) hh (fun _ _ w h3 h4 _ hG => ⟨trivial, nil_run hT (opd_sound h3 h4) hG hc w⟩) h
def slAd (a : Option Addr) (c lo sz : Nat) : Option Addr := if c = lo then a else a.map (·.add (lo * sz))
include hT in

theorem Exec.slx {a : Option Addr} {n cp sz : Nat} {p q : Option Int} {lo hi : Int} {lo' n' c' : Nat} (hh : headOf C.nt all lr L o = some ([], d)) (hc : slvOf C.T (opd L lr) [] o.op = some (a, n, cp, p, q, sz)) (hlo : loN p = lo) (hhi : hiN n q = hi)
  (hb : 0 ≤ lo ∧ lo ≤ hi ∧ hi ≤ cp) (e1 : lo.toNat = lo') (e2 : hi.toNat - lo' = n') (e3 : cp - lo' = c')
  (h : Exec C ⟨.ops rest all (⟨d, [], .v (.slice (slAd a cp lo' sz) n' c'), d⟩ :: lr) :: k, (d, .v (.slice (slAd a cp lo' sz) n' c')) :: L, M⟩ V) : Exec C ⟨.ops (o :: rest) all lr :: k, L, M⟩ V := by
 subst hlo; subst hhi; subst e1; subst e2; subst e3
 exact Exec.yieldsP (G := []) (x := .v (.slice (slAd a cp (loN p).toNat sz) ((hiN n q).toNat - (loN p).toNat) (cp - (loN p).toNat))) hh (fun _ _ w h3 h4 _ hG => ⟨trivial, slv_run hT (opd_sound h3 h4) hG hc hb w⟩) h
include hT in
theorem Exec.fslx {a : Option Addr} {n cp sz : Nat} {p q : Option Int} {lo hi : Int} {lo' n' c' : Nat} {listed : List Bool} {i m m' : Nat} {ends n0 mask} {V1 : View} {pp : List (Nat × Bool)} (hh : headX C.nt all lr i L = some (o, [], d)) (hm : m' = m + 1) (hc : slvOf C.T (opd L lr) [] o.op = some (a, n, cp, p, q, sz)) (hlo : loN p = lo) (hhi : hiN n q = hi)
  (hb : 0 ≤ lo ∧ lo ≤ hi ∧ hi ≤ cp) (e1 : lo.toNat = lo') (e2 : hi.toNat - lo' = n') (e3 : cp - lo' = c')
  (h : Exec C ⟨.draw ⟨all, setT listed i, m, ends, n0, mask, V1, pp, ⟨d, [], .v (.slice (slAd a cp lo' sz) n' c'), d⟩ :: lr⟩ :: k, (d, .v (.slice (slAd a cp lo' sz) n' c')) :: L, M⟩ V) :
  Exec C ⟨.draw ⟨all, listed, m', ends, n0, mask, V1, (i, true) :: pp, lr⟩ :: k, L, M⟩ V := by
 subst hlo; subst hhi; subst e1; subst e2; subst e3
 exact Exec.fyields (G := []) (x := .v (.slice (slAd a cp (loN p).toNat sz) ((hiN n q).toNat - (loN p).toNat) (cp - (loN p).toNat))) hh hm (fun _ _ w h3 h4 _ _ hG => ⟨trivial, slv_run hT (opd_sound h3 h4) hG hc hb w⟩) h
end
end Go.Proofs.YtglnnhmmipopiaaGreat

set_option linter.all false
namespace Go.Proofs.YtglnnhmmipopiaaGreat
def cpTy (T : List TyD) (op : Op) : Option (Operand × Operand × Nat × Nat × Nat × Nat) :=
 match op with
 | .call ⟨.builtin .copy, ⟨[sa, sb]⟩, ⟨[t, t']⟩⟩ => match sliceTy T t with
  | some (e, sz, _, _) => some (sa, sb, t, t', e, sz)
  | none => none
 | _ => none
theorem cpTy_op {T : List TyD} {op : Op} {sa sb : Operand} {t t' e sz : Nat} (h : cpTy T op = some (sa, sb, t, t', e, sz)) :
  op = .call ⟨.builtin .copy, #[sa, sb], #[t, t']⟩ ∧ ∃ bys zs, sliceTy T t = some (e, sz, bys, zs) := by
 unfold cpTy at h
 split at h <;> try (simp at h; done)
 split at h <;> try (simp at h; done)
 rename_i e' sz' bys zs ht
 simp only [Option.some.injEq, Prod.mk.injEq] at h
 obtain ⟨rfl, rfl, rfl, rfl, rfl, rfl⟩ := h
 exact ⟨rfl, bys, zs, ht⟩
section
variable {C : Ctx} (hT : TOk C.P C.T) {o : Oper} {rest all : List Oper} {lr : List REnt} {k : List Kt} {L : Fr} {M : List OB} {V : View} {d : Nat}
include hT
theorem Exec.cpR (i : Nat) {sa sb : Operand} {t t' e sz g oo dLen dCap sLen sCap n c m : Nat} {ad a2 : Option Addr} {cs news cs' : List Value} {M' : List OB}
  (hh : headOf C.nt all lr L o = some ([], d)) (hc : cpTy C.T o.op = some (sa, sb, t, t', e, sz)) (ha : ev (opd L lr) [] sa = some (.v (.slice ad dLen dCap))) (had : ad = some ⟨g, oo, none⟩) (hb : ev (opd L lr) [] sb = some (.v (.slice a2 sLen sCap)))
  (hi : nth M i = some (.row (.slice (some ⟨g, 0, none⟩) n c) cs e sz)) (hsrc : Src M V a2 news) (hm : Nat.min sLen dLen = m) (hl : news.length = m * sz) (hfit : oo + news.length ≤ cs.length) (h1 : ∀ u ∈ news, u.oneCell' = true)
  (hcs : cs.take oo ++ news ++ cs.drop (oo + news.length) = cs') (hs : setN M i (.row (.slice (some ⟨g, 0, none⟩) n c) cs' e sz) = some M') (hk : wrOk i k = true)
  (h : Exec C ⟨.ops rest all (⟨d, [], .v (.int .i64 m), d⟩ :: lr) :: k, (d, .v (.int .i64 m)) :: L, M'⟩ V) : Exec C ⟨.ops (o :: rest) all lr :: k, L, M⟩ V := by
 refine Exec.rowS (σ := Unit) i (fun _ => .int .i64 m) (fun _ => .row (.slice (some ⟨g, 0, none⟩) n c) cs' e sz) (fun _ => M') hh (fun _ => by simp) (fun _ => hs) hk (fun FR env t0 w h2 h3 h4 => ?_) (fun _ => h)
 rw [nth_eq] at hi
 obtain ⟨hop, bys, zs, hts⟩ := cpTy_op hc
 obtain ⟨u1, u2, u3, _, ti, z, i1, i2, i3, i4, i5, _⟩ := sliceTy_sound hT hts
 have hsat : rowSat w e sz (.slice (some ⟨g, 0, none⟩) n c) cs := h2.sat i _ hi
 obtain ⟨cur, k1, k2, k3⟩ := rowSat_put (nv := news) hsat hfit
 rw [hcs] at k3
 subst had
 have hrun := run_copyK (P := C.P) w t t' o.type e sz g oo dLen dCap a2 sLen sCap cur e news u1 ⟨ti, i1, i3⟩ k1 (by rw [hm]; exact hl) (hsrc.cells h2) k2 h1
 refine ⟨(), w.setRow g (cur.toList.take oo ++ news ++ cur.toList.drop (oo + news.length)).toArray, h2.upd hi (by simp) rfl rfl rfl (fun kk _ hn => setRow_other w g kk _ (fun he => hn (by simp [OB.own, Value.ownBlock, he]))) k3 (fun p hp => .inl hp), ?_⟩
 have e1 := ev_sound (opd_sound h3 h4) (G := []) trivial ha
 have e2 := ev_sound (opd_sound h3 h4) (G := []) trivial hb
 simp only [den] at e1 e2
 unfold execOp
 simp only [hop, resolve, List.map_toArray, List.map_cons, List.map_nil, e1, e2, Sem.run_bind, Sem.run_pure, Result.andThen_ok, invoke, builtin, hrun, hm]
 rfl
theorem Exec.clrR (i : Nat) {sa : Operand} {t e sz bys g oo m c2 n c : Nat} {zs : List Value} {ad : Option Addr} {cs : List Value}
  (hg : guardC all lr o.guard = some []) (hd : o.dst = none) (hop : o.op = .call ⟨.builtin .clear, #[sa], #[t]⟩) (ht : sliceTy C.T t = some (e, sz, bys, zs)) (hz1 : ∀ u ∈ zs, u.oneCell' = true) (ha : ev (opd L lr) [] sa = some (.v (.slice ad m c2))) (had : ad = some ⟨g, oo, none⟩)
  (hi : nth M i = some (.row (.slice (some ⟨g, 0, none⟩) n c) cs e sz)) (hlo : n * sz ≤ oo) (hhi : oo + m * sz ≤ c * sz) (hs : setN M i (.row (.slice (some ⟨g, 0, none⟩) n c) cs e sz) = some M) (hk : wrOk i k = true)
  (h : Exec C ⟨.ops rest all lr :: k, L, M⟩ V) : Exec C ⟨.ops (o :: rest) all lr :: k, L, M⟩ V := by
 refine Exec.rowN (v := .tuple #[]) i hg hd (b := .row (.slice (some ⟨g, 0, none⟩) n c) cs e sz) (by simp) hs hk (fun FR env t0 w h2 h3 h4 => ?_) h
 rw [nth_eq] at hi
 obtain ⟨u1, u2, u3, u4, ti, z, i1, i2, i3, i4, i5, i6⟩ := sliceTy_sound hT ht
 have hsat : rowSat w e sz (.slice (some ⟨g, 0, none⟩) n c) cs := h2.sat i _ hi
 obtain ⟨cur, k2, k3, k4, k5, r1, k6⟩ := rowSat_cur hsat
 subst had
 obtain ⟨cur', c1, c2', c3⟩ := run_clearK (P := C.P) w t e o.type z u1 i1 i2 g oo m c2 cur e k2 (by rw [i5, k5]; exact hhi) (by rw [i6]; exact hz1)
 refine ⟨w.setRow g cur', h2.upd hi (by simp) rfl rfl rfl (fun kk _ hn => setRow_other w g kk _ (fun he => hn (by simp [OB.own, Value.ownBlock, he]))) (rowSat_mk (setRow_heap w g cur _ e _ k2) k3 k4 (by rw [c2', k5]) r1 ?_) (fun p hp => .inl hp), ?_⟩
 ·rw [← k6, ← Nat.min_eq_left hlo, ← List.take_take, c3, List.take_take]
 ·have e1 := ev_sound (opd_sound h3 h4) (G := []) trivial ha
  simp only [den] at e1
  unfold execOp
  simp only [hop, resolve, List.map_toArray, List.map_cons, List.map_nil, e1, Sem.run_bind, Sem.run_pure, Result.andThen_ok, invoke, builtin, c1]
theorem Exec.apIn (i : Nat) {sa sb : Operand} {t e sz bys g n' n c m c2 : Nat} {a1 a2 : Option Addr} {ad : Addr} {cs news cs' : List Value} {M' : List OB}
  (hh : headOf C.nt all lr L o = some ([], d)) (hc : appTy C.T o.op = some (sa, sb, t, e, sz, bys)) (ha : ev (opd L lr) [] sa = some (.v (.slice a1 n' c))) (ha1 : a1 = some ⟨g, 0, none⟩) (hb : ev (opd L lr) [] sb = some (.v (.slice a2 m c2))) (ha2 : a2 = some ad)
  (hi : nth M i = some (.row (.slice (some ⟨g, 0, none⟩) n c) cs e sz)) (hsrc : Src M V a2 news) (hl : news.length = m * sz) (hroom : n' + m ≤ n) (h1 : ∀ u ∈ news, u.oneCell' = true) (hone : ∀ u ∈ cs, u.oneCell' = true)
  (hcs : cs.take (n' * sz) ++ news ++ cs.drop (n' * sz + news.length) = cs') (hs : setN M i (.row (.slice (some ⟨g, 0, none⟩) n c) cs' e sz) = some M') (hk : wrOk i k = true)
  (h : Exec C ⟨.ops rest all (⟨d, [], .v (.slice (some ⟨g, 0, none⟩) (n' + m) c), d⟩ :: lr) :: k, (d, .v (.slice (some ⟨g, 0, none⟩) (n' + m) c)) :: L, M'⟩ V) : Exec C ⟨.ops (o :: rest) all lr :: k, L, M⟩ V := by
 refine Exec.rowS (σ := Unit) i (fun _ => .slice (some ⟨g, 0, none⟩) (n' + m) c) (fun _ => .row (.slice (some ⟨g, 0, none⟩) n c) cs' e sz) (fun _ => M') hh (fun _ => by simp) (fun _ => hs) hk (fun FR env t0 w h2 h3 h4 => ?_) (fun _ => h)
 rw [nth_eq] at hi
 obtain ⟨hop, zs, hts⟩ := appTy_op hc
 obtain ⟨u1, u2, u3, _, ti, z, i1, i2, i3, i4, i5, _⟩ := sliceTy_sound hT hts
 have hsat : rowSat w e sz (.slice (some ⟨g, 0, none⟩) n c) cs := h2.sat i _ hi
 obtain ⟨cur0, _, hnc, _, _, r1, _⟩ := rowSat_cur hsat
 have hfit : n' * sz + news.length ≤ cs.length := by rw [hl, ← Nat.add_mul, r1]; exact Nat.mul_le_mul_right _ hroom
 obtain ⟨cur, k1, k2, k3⟩ := rowSat_put (nv := news) hsat hfit
 rw [hcs] at k3
 subst ha1; subst ha2
 have hnews : ∀ j u, news[j]? = some u → w.cell? (ad.add j) = some u := by
  rcases hsrc.cells h2 with h0 | ⟨ad', he, hcl⟩
  ·subst h0; simp
  ·simp only [Option.some.injEq] at he; subst he; exact hcl
 have hrun := run_append_room (P := C.P) w t o.type e ti u1 i1 g n' c cur k1 ad m c2 news (by rw [i3]; exact hl) hnews h1 (by omega) (by rw [i3]; exact k2)
 rw [i3] at hrun
 refine ⟨(), w.setRow g (cur.toList.take (n' * sz) ++ news ++ cur.toList.drop (n' * sz + news.length)).toArray, h2.upd hi (by simp) rfl rfl rfl (fun kk _ hn => setRow_other w g kk _ (fun he => hn (by simp [OB.own, Value.ownBlock, he]))) k3 (fun p hp => .inl hp), ?_⟩
 have e1 := ev_sound (opd_sound h3 h4) (G := []) trivial ha
 have e2 := ev_sound (opd_sound h3 h4) (G := []) trivial hb
 simp only [den] at e1 e2
 unfold execOp
 simp only [hop, resolve, List.map_toArray, List.map_cons, List.map_nil, e1, e2, Sem.run_bind, Sem.run_pure, Result.andThen_ok, invoke, builtin, hrun]
theorem Exec.appJ (i : Nat) {sa sb : Operand} {t e sz bys n c m c2 nm : Nat} {a a2 : Option Addr} {ad : Addr} {cs news : List Value} {M' : Option Addr × Nat → List OB}
  (hh : headOf C.nt all lr L o = some ([], d)) (hc : appTy C.T o.op = some (sa, sb, t, e, sz, bys)) (ha : ev (opd L lr) [] sa = some (.v (.slice a n c))) (hb : ev (opd L lr) [] sb = some (.v (.slice a2 m c2))) (ha2 : a2 = some ad)
  (hi : nth M i = some (.row (.slice a n c) cs e sz)) (hsrc : Src M V a2 news) (h1 : ∀ u ∈ news, u.oneCell' = true) (hl : news.length = m * sz) (hnm : n + m = nm) (hs : ∀ q : Option Addr × Nat, setN M i (.row (.slice q.1 nm q.2) (cs ++ news) e sz) = some (M' q)) (hk : wrOk i k = true)
  (hbnd : nm * bys ≤ 140737488355328)
  (h : ∀ a' c', Exec C ⟨.ops rest all (⟨d, [], .v (.slice a' nm c'), d⟩ :: lr) :: k, (d, .v (.slice a' nm c')) :: L, M' (a', c')⟩ V) : Exec C ⟨.ops (o :: rest) all lr :: k, L, M⟩ V := by
 subst hnm
 refine Exec.rowS i (fun q : Option Addr × Nat => .slice q.1 (n + m) q.2) (fun q => .row (.slice q.1 (n + m) q.2) (cs ++ news) e sz) M' hh (fun _ => by simp) hs hk (fun FR env t' w h2 h3 h4 => ?_) (fun q => h q.1 q.2)
 rw [nth_eq] at hi
 subst ha2
 have hnews : ∀ j u, news[j]? = some u → w.cell? (ad.add j) = some u := by
  rcases hsrc.cells h2 with h0 | ⟨ad', he, hcl⟩
  ·subst h0; simp
  ·simp only [Option.some.injEq] at he; subst he; exact hcl
 have hb' := ev_sound (opd_sound h3 h4) (G := []) trivial hb
 obtain ⟨a', c', w', p1, p2⟩ := app_core hT h2 h3 h4 hc ha hi (by rw [hb']; rfl) rfl hl hnews h1 hbnd
 exact ⟨(a', c'), w', p2, p1⟩
theorem Exec.apZ (i : Nat) {sa sb : Operand} {t tn e sz bys g n' n c j q : Nat} {kn kq : IntKind} {td : TyD} {zs : List Value} {a1 : Option Addr} {cs : List Value} {M' : Addr × Nat → List OB}
  (hh : headOf C.nt all lr L o = some ([], d)) (hop : o.op = .call ⟨.builtin .append, #[sa, sb], #[t, tn]⟩) (ht : sliceTy C.T t = some (e, sz, bys, zs)) (htn : nth C.T tn = some td) (htd : td.und = .int kn) (hts : Nat.blt 0 td.size = true)
  (ha : ev (opd L lr) [] sa = some (.v (.slice a1 n' c))) (ha1 : a1 = some ⟨g, 0, none⟩) {x : Int} (hb : ev (opd L lr) [] sb = some (.v (.int kq x))) (hx : x = (q : Int)) (hq : 0 < q)
  (hi : nth M i = some (.row (.slice (some ⟨g, 0, none⟩) n c) cs e sz)) (hn : n' ≤ n) (hroom : c < n' + q) (hbnd : (n' + q) * bys ≤ 140737488355328) {nq : Nat} (hnq : n' + q = nq)
  (hs : ∀ p : Addr × Nat, snocN M (.row (.slice (some p.1) nq p.2) (cs.take (n' * sz) ++ (List.replicate q zs).flatten) e sz) 0 = some (M' p, j))
  (h : ∀ b c', Exec C ⟨.ops rest all (⟨d, [], .v (.slice (some ⟨b, 0, none⟩) nq c'), d⟩ :: lr) :: k, (d, .v (.slice (some ⟨b, 0, none⟩) nq c')) :: L, M' (⟨b, 0, none⟩, c')⟩ V) : Exec C ⟨.ops (o :: rest) all lr :: k, L, M⟩ V := by
 subst hnq
 refine Exec.memS (σ := Nat × Nat) (fun p => .v (.slice (some ⟨p.1, 0, none⟩) (n' + q) p.2)) (fun p => M' (⟨p.1, 0, none⟩, p.2)) hh (fun FR env t0 w h2 h3 h4 => ?_) (fun p => .inl ⟨_, (snocN_sound (hs (⟨p.1, 0, none⟩, p.2))).1⟩) (fun p => h p.1 p.2)
 rw [nth_eq] at hi
 obtain ⟨u1, u2, u3, u4, ti, z, i1, i2, i3, i4, i5, i6⟩ := sliceTy_sound hT ht
 have hsat : rowSat w e sz (.slice (some ⟨g, 0, none⟩) n c) cs := h2.sat i _ hi
 obtain ⟨cur, k2, k3, k4, k5, r1, k6⟩ := rowSat_cur hsat
 subst ha1; subst hx
 have hle : n' + q ≤ maxLen := by
  have : n' + q ≤ (n' + q) * bys := Nat.le_mul_of_pos_right _ u3
  simp only [maxLen]
  omega
 have htk : (cs.take (n' * sz)).length = n' * sz := by
  have := Nat.mul_le_mul_right sz hn
  simp only [List.length_take]; omega
 have hold : (Builtin.firstCells ti.size n' (.slice (some ⟨g, 0, none⟩) n' c)).run C.P w.drew = .ok (cs.take (n' * sz)).toArray w.drew := by
  refine run_firstCells_some w.drew ti.size n' ⟨g, 0, none⟩ n' c _ (by rw [i3]; exact htk) (fun jj u hu => ?_)
  rw [Addr.add_lit]
  have hu' : cs[jj]? = some u := by
   rw [List.getElem?_take] at hu
   split at hu
   ·exact hu
   ·simp at hu
  have := rowSat_cell (off := 0) (l := cs) hsat rfl (fun j v hv => by simpa using hv) jj u hu'
  simpa using this
 have hb48 : q * ti.bytes ≤ 281474976710656 := by
  rw [i4]
  have : q * bys ≤ (n' + q) * bys := Nat.mul_le_mul_right _ (by omega)
  omega
 have hrun := Lib.run_append_grow_zeros (P := C.P) w t tn o.type e ti z kq kn u1 (t_int hT htn (by simpa [Nat.blt_eq, Nat.pos_iff_ne_zero] using hts) htd) i1 i2 (some ⟨g, 0, none⟩) n' c (cs.take (n' * sz)) hold q hq (by omega) hroom
  (by simp only [maxLen] at hle; omega) hb48 (growslice_fits (by omega) (by rw [i4]; exact hbnd))
 have hz : z.cells = ⟨zs⟩ := by apply Array.ext'; rw [i6]
 have hzc : ∀ m : Nat, (Builtin.zeroCells z.cells m).toList = (List.replicate m zs).flatten := by
  intro m
  rw [reps_eq]
  simp only [Builtin.zeroCells, hz, Array.toList_map, Array.toList_range, List.size_toArray]
  refine List.map_congr_left fun jj _ => ?_
  rw [getElem!_def]
  have : (⟨zs⟩ : Array Value)[jj % zs.length]? = zs[jj % zs.length]? := by simp
  rw [this]
  cases zs[jj % zs.length]? <;> rfl
 have hfl : ∀ m : Nat, (List.replicate m zs).flatten.length = m * sz := fun m => by simp [List.length_flatten, u4]
 have hcap : n' + q ≤ grownCap w (n' + q) c e := grownCap_ge w _ _ _
 have hcapm := grownCap_le_maxLen w (n' + q) c e hle
 have hM' := (snocN_sound (hs (⟨w.heap.size, 0, none⟩, grownCap w (n' + q) c e))).1
 have hsz2 : (w.drew).heap.size = w.heap.size := rfl
 let cells : Array Value := (cs.take (n' * sz)).toArray ++ Builtin.zeroCells z.cells q ++ Builtin.zeroCells z.cells (grownCap w (n' + q) c e - (n' + q))
 have hcl : cells.toList = cs.take (n' * sz) ++ (List.replicate q zs).flatten ++ (List.replicate (grownCap w (n' + q) c e - (n' + q)) zs).flatten := by
  simp only [cells, Array.toList_append, hzc]
 have hlen0 : (cs.take (n' * sz) ++ (List.replicate q zs).flatten).length = (n' + q) * sz := by rw [List.length_append, htk, hfl, Nat.add_mul]
 have hnew : rowSat (w.drew.alloc (.cells cells e)) e sz (.slice (some ⟨w.heap.size, 0, none⟩) (n' + q) (grownCap w (n' + q) c e)) (cs.take (n' * sz) ++ (List.replicate q zs).flatten) := by
  refine rowSat_mk (heap_alloc_new w.drew _) hcap hcapm ?_ hlen0 ?_
  ·rw [← Array.length_toList, hcl, List.length_append, hlen0, hfl, ← Nat.add_mul]; congr 1; omega
  ·rw [hcl, ← hlen0]; exact List.take_left
 have hW := h2.add (w' := w.drew.alloc (.cells cells e)) (o' := .row (.slice (some ⟨w.heap.size, 0, none⟩) (n' + q) (grownCap w (n' + q) c e)) (cs.take (n' * sz) ++ (List.replicate q zs).flatten) e sz) 0 rfl rfl rfl
  (fun kk hk => Go.RowKit.Below.heap_alloc w.drew _ kk hk) hnew (fun p hp => by simp only [OB.own, Value.ownBlock, Option.some.injEq] at hp; omega)
 rw [← hM'] at hW
 refine ⟨(w.heap.size, grownCap w (n' + q) c e), env ++ [0], _, ⟨_, rfl⟩, hW, fun L hL => by rw [hM']; exact hL.mono h2.len _ _, fun lr hl => by rw [hM']; exact hl.mono h2.len _ _, trivial, ?_⟩
 have e1 := ev_sound (opd_sound h3 h4) (G := []) trivial ha
 have e2 := ev_sound (opd_sound h3 h4) (G := []) trivial hb
 simp only [den] at e1 e2
 unfold execOp
 simp only [hop, resolve, List.map_toArray, List.map_cons, List.map_nil, e1, e2, Sem.run_bind, Sem.run_pure, Result.andThen_ok, invoke, builtin, hrun]
 rfl
omit hT in

theorem callE_run {P : Program} {env : List Nat} {t : Array Value} {od : Look} (hO : Tells env M t od) {o : Oper} {f : Nat} {args : List Value} (h : callOf od [] o.op = some (f, args)) {fn : Func} {e : Array Value → Sem Value}
  (hf : P.funcs[f]? = some fn) (hname : (fn.name == "runtime.NumGoroutine") = false) (hb : fn.body.isNone = true) (hn : Extern.findNext fn = none) (he : Extern.find fn = some e) {w w' : World} {v : Value} (hr : (e ⟨args⟩).run P w = .ok v w') :
  (execOp (⟨t, []⟩ : Act).eval o).run P w = .ok (.value v) w' := by
 unfold callOf at h
 split at h <;> try (simp at h; done)
 rename_i fx az tys hop
 split at h <;> try (simp at h; done)
 rename_i f' fi ca hfx
 split at h <;> try (simp at h; done)
 rename_i args' has
 split at h <;> try (simp at h; done)
 rename_i a1 ha1
 split at h <;> try (simp at h; done)
 rename_i full hfull
 simp only [Option.some.injEq, Prod.mk.injEq] at h
 obtain ⟨rfl, rfl⟩ := h
 have e1 := ev_sound hO (G := []) trivial hfx
 have e2 := evs_sound hO (G := []) trivial has
 have e3 := appV_sound ha1
 have e4 := appV_sound hfull
 have hc := run_callFunc_extern hf hname hb hn he ⟨full⟩ w
 rw [hr] at hc
 simp only [Result.andThen_ok] at hc
 unfold execOp
 have harr : (⟨fi⟩ : Array Value) ++ (⟨az⟩ : Array Operand).map (⟨t, []⟩ : Act).eval ++ (⟨ca⟩ : Array Value) = ⟨full⟩ := by
  apply Array.ext'
  simp [e4, e3, ← e2]
 simp only [hop, resolve, e1, den, Deferred.ofValue, Sem.run_bind, Sem.run_pure, Result.andThen_ok, invoke, harr, hc]
omit hT in

theorem Exec.ovl (i j : Nat) {f t tb e ez sz' n c la ca n2 c2 lb cb g g2 oo : Nat} {a b : Option Addr} {cs ds : List Value} {fn : Func} {args : List Value} (hh : headOf C.nt all lr L o = some ([], d)) (hc : callOf (opd L lr) [] o.op = some (f, args)) (hargs : args = [.slice a la ca, .slice b lb cb])
  (hf : C.P.funcs[f]? = some fn) (hname : (fn.name == "runtime.NumGoroutine") = false) (hb : fn.body.isNone = true) (hn : Extern.findNext fn = none) (he : Extern.find fn = some (Extern.SlicesOverlaps.overlaps #[t, t] #[tb]))
  (hu : C.P.underlying t = some (.slice e)) (hz : ∀ w, (Go.sizeOf e).run C.P w = .ok ez w) (ha : a = some ⟨g2, 0, none⟩) (hbb : b = some ⟨g, oo, none⟩) (hij : i ≠ j) (hc0 : 0 < c * sz')
  (hi : nth M i = some (.row (.slice (some ⟨g, 0, none⟩) n c) cs e sz')) (hj : nth M j = some (.row (.slice (some ⟨g2, 0, none⟩) n2 c2) ds e sz'))
  (h : Exec C ⟨.ops rest all (⟨d, [], .v (.bool false), d⟩ :: lr) :: k, (d, .v (.bool false)) :: L, M⟩ V) : Exec C ⟨.ops (o :: rest) all lr :: k, L, M⟩ V := by
 refine Exec.yields (G := []) (x := .v (.bool false)) hh (fun FR env t0 w h2 h3 h4 _ => ⟨trivial, fun K Q hK => wp_value (callE_run (opd_sound h3 h4) hc hf hname hb hn he (v := .bool false) (w' := w) ?_) (hK w h2)⟩) h
 rw [nth_eq] at hi hj
 have hsi : rowSat w e sz' (.slice (some ⟨g, 0, none⟩) n c) cs := h2.sat i _ hi
 have hsj : rowSat w e sz' (.slice (some ⟨g2, 0, none⟩) n2 c2) ds := h2.sat j _ hj
 obtain ⟨cur, k2, k3, k4, k5, r1, k6⟩ := rowSat_cur hsi
 obtain ⟨cur2, l2, l3, l4, l5, l1, l6⟩ := rowSat_cur hsj
 have hne : g2 ≠ g := fun hg => h2.apart i j _ _ ⟨g, 0, none⟩ hij hi hj rfl (by simp [OB.own, Value.ownBlock, hg])
 subst hargs; subst ha; subst hbb
 exact Lib.run_overlaps_apart w t tb e hu ez hz ⟨g2, 0, none⟩ ⟨g, oo, none⟩ la ca lb cb hne e e cur2.size cur.size (by simp [World.shape?, l2]) (by simp [World.shape?, k2]) (by rw [k5]; omega) (by simp [World.frozen?, l2]) (by simp [World.frozen?, l2])
theorem Exec.slx3 {t : Nat} {x : Operand} {lo : Option Operand} {hi mx : Operand} {e sz bys n cp : Nat} {zs : List Value} {a : Option Addr} {kh km : IntKind} {p : Option Int} {hh' m : Int} (hh : headOf C.nt all lr L o = some ([], d)) (hop : o.op = .slice t x lo (some hi) (some mx)) (ht : sliceTy C.T t = some (e, sz, bys, zs))
  (hx : ev (opd L lr) [] x = some (.v (.slice a n cp))) (hl : bdOf (opd L lr) [] lo = some p) (hhi : ev (opd L lr) [] hi = some (.v (.int kh hh'))) (hm : ev (opd L lr) [] mx = some (.v (.int km m)))
  (hb : 0 ≤ loN p ∧ loN p ≤ hh' ∧ hh' ≤ m ∧ m ≤ cp) {l' n' c' : Nat} (e1 : (loN p).toNat = l') (e2 : hh'.toNat - l' = n') (e3 : m.toNat - l' = c')
  (h : Exec C ⟨.ops rest all (⟨d, [], .v (.slice (slAd a m.toNat l' sz) n' c'), d⟩ :: lr) :: k, (d, .v (.slice (slAd a m.toNat l' sz) n' c')) :: L, M⟩ V) : Exec C ⟨.ops (o :: rest) all lr :: k, L, M⟩ V := by
 subst e1; subst e2; subst e3
 refine Exec.yieldsP (G := []) (x := .v (.slice (slAd a m.toNat (loN p).toNat sz) (hh'.toNat - (loN p).toNat) (m.toNat - (loN p).toNat))) hh (fun env t0 w h3 h4 _ hG => ⟨trivial, ?_⟩) h
 obtain ⟨u1, u2, u3, u4, ti, z, i1, i2, i3, i4, i5, i6⟩ := sliceTy_sound hT ht
 have g0 := ev_sound (opd_sound h3 h4) (G := []) trivial hx
 have g3 := ev_sound (opd_sound h3 h4) (G := []) trivial hhi
 have g4 := ev_sound (opd_sound h3 h4) (G := []) trivial hm
 obtain ⟨v1, g1, g2⟩ := bdOf_sound (opd_sound h3 h4) (G := []) trivial hl
 simp only [den] at g0 g3 g4
 have hsz : (sizeOf e).run C.P w = .ok sz w := by simp [sizeOf, typeInfo, i1, i3]
 have hel : C.P.elem t = e := by simp [Program.elem, u1]
 have ht' : C.P.underlying t = some (.slice (C.P.elem t)) := by rw [hel]; exact u1
 rw [← hel] at hsz
 unfold execOp
 simp only [hop, g0, den, g1, Option.map_some, g3, g4, Sem.run_bind]
 rw [run_sliceAt_slice (h := ht')]
 obtain ⟨b1, b2, b3, b4⟩ := hb
 rcases g2 with ⟨rfl, rfl⟩ | ⟨i, kk, rfl, rfl⟩ <;> simp only [loN] at b1 b2 b3 b4 ⊢
 ·rw [run_slice_hm (ht := ht') (h0 := by omega) (h2 := b3) (h3 := b4)]
  simp [hsz, sliced, slAd]
 ·rw [run_slice_lhm (ht := ht') (h0 := b1) (h1 := b2) (h2 := b3) (h3 := b4)]
  simp [hsz, sliced, slAd]
end
end Go.Proofs.YtglnnhmmipopiaaGreat

set_option linter.all false
namespace Go.Proofs.YtglnnhmmipopiaaGreat
theorem RowRep.take {α : Type} [Inhabited α] {c : Cd α} {V : View} : ∀ {l : List α} {cs : List Value} (i : Nat), RowRep c V l cs → RowRep c V (l.take i) (cs.take (i * c.sz))
 | [], cs, i, h => by rw [show cs = [] from h]; simp; exact rfl
 | x :: l, cs, 0, h => by simp; exact rfl
 | x :: l, cs, i + 1, ⟨e, r, h0, h1, h2⟩ => by
  have he := c.len h1
  refine ⟨e, r.take (i * c.sz), ?_, h1, RowRep.take i h2⟩
  rw [h0, Nat.add_mul, Nat.one_mul, Nat.add_comm, ← he]
  exact List.take_length_add_append _
theorem RowRep.drop {α : Type} [Inhabited α] {c : Cd α} {V : View} : ∀ {l : List α} {cs : List Value} (i : Nat), RowRep c V l cs → RowRep c V (l.drop i) (cs.drop (i * c.sz))
 | [], cs, i, h => by rw [show cs = [] from h]; simp; exact rfl
 | x :: l, cs, 0, h => by simpa using h
 | x :: l, cs, i + 1, ⟨e, r, h0, h1, h2⟩ => by
  have he := c.len h1
  rw [h0, Nat.add_mul, Nat.one_mul, Nat.add_comm (i * c.sz), ← he, List.drop_length_add_append, he]
  exact RowRep.drop i h2
theorem ins_cells {cs ds js : List Value} {n i sz : Nat} (hc : cs.length = n * sz) (hd : ds.length = sz) (hj : js.length = sz) (hi : i < n) :
  (((cs ++ js).take ((i + 1) * sz) ++ cs.drop (i * sz) ++ (cs ++ js).drop ((i + 1) * sz + (cs.drop (i * sz)).length)).take (i * sz) ++ ds ++ ((cs ++ js).take ((i + 1) * sz) ++ cs.drop (i * sz) ++ (cs ++ js).drop ((i + 1) * sz + (cs.drop (i * sz)).length)).drop (i * sz + ds.length)) = cs.take (i * sz) ++ ds ++ cs.drop (i * sz) := by
 have h1 : (i + 1) * sz ≤ n * sz := Nat.mul_le_mul_right _ hi
 rw [Nat.add_mul, Nat.one_mul] at h1 ⊢
 have h2 : (cs ++ js).drop (i * sz + sz + (cs.drop (i * sz)).length) = [] := by
  rw [List.drop_eq_nil_iff]; simp only [List.length_append, List.length_drop]; omega
 rw [h2, List.append_nil]
 have h3 : (cs ++ js).take (i * sz + sz) = cs.take (i * sz + sz) := List.take_append_of_le_length (by omega)
 rw [h3, hd]
 have h4 : (cs.take (i * sz + sz)).length = i * sz + sz := by simp; omega
 congr 1
 ·congr 1
  rw [List.take_append_of_le_length (by omega), List.take_take, Nat.min_eq_left (by omega)]
 ·exact List.drop_left' h4
theorem insZ_cells {cs ds zs : List Value} {n i sz : Nat} (hc : cs.length = n * sz) (hd : ds.length = sz) (hz : zs.length = (n + 1 - i) * sz) (hi : i < n) :
  (((cs.take (i * sz) ++ zs).take (i * sz) ++ ds ++ (cs.take (i * sz) ++ zs).drop (i * sz + ds.length)).take ((i + 1) * sz) ++ cs.drop (i * sz) ++ ((cs.take (i * sz) ++ zs).take (i * sz) ++ ds ++ (cs.take (i * sz) ++ zs).drop (i * sz + ds.length)).drop ((i + 1) * sz + (cs.drop (i * sz)).length)) = cs.take (i * sz) ++ ds ++ cs.drop (i * sz) := by
 have h1 : (i + 1) * sz ≤ n * sz := Nat.mul_le_mul_right _ hi
 have h5 : (n + 1 - i) * sz = n * sz + sz - i * sz := by rw [Nat.sub_mul, Nat.add_mul, Nat.one_mul]
 rw [Nat.add_mul, Nat.one_mul] at h1 ⊢
 rw [h5] at hz
 have h4 : (cs.take (i * sz)).length = i * sz := by simp; omega
 rw [List.take_left' h4, hd]
 have h6 : (cs.take (i * sz) ++ ds).length = i * sz + sz := by simp; omega
 rw [List.take_left' h6]
 have h7 : (cs.take (i * sz) ++ ds ++ (cs.take (i * sz) ++ zs).drop (i * sz + sz)).drop (i * sz + sz + (cs.drop (i * sz)).length) = [] := by
  rw [List.drop_eq_nil_iff]; simp only [List.length_append, List.length_drop, List.length_take]; omega
 rw [h7, List.append_nil]

/-! ### Own memory sorted anew while a drawn region is under way -/
def idN : Nat → Nat → List Nat → Bool
 | _, 0, _ => true
 | _, _ + 1, [] => false
 | i, n + 1, a :: l => match Nat.beq a i with
  | true => idN (i + 1) n l
  | false => false
theorem idN_sound : ∀ {n i : Nat} {l : List Nat}, idN i n l = true → n ≤ l.length ∧ ∀ j, j < n → l[j]? = some (i + j)
 | 0, i, l, _ => ⟨Nat.zero_le _, fun j h => by omega⟩
 | n + 1, i, [], h => by simp [idN] at h
 | n + 1, i, a :: l, h => by
  simp only [idN] at h
  split at h
  ·rename_i ha
   obtain ⟨h1, h2⟩ := idN_sound h
   refine ⟨by simp; omega, fun j hj => ?_⟩
   cases j with
   | zero => simp [beq_nat ha]
   | succ j => simp only [List.getElem?_cons_succ, h2 j (by omega)]; congr 1; omega
  ·simp at h
def SubE (p : List Nat) : List REnt → List REnt → Prop
 | [], _ => True
 | e :: l', l => (e.c = [] ∧ e.r = e.s ∧ ∃ y r, selSV p e.x = some y ∧ lookR l e.s = some ⟨e.s, [], y, r⟩) ∧ SubE p l' l
theorem SubE.look {p : List Nat} {l : List REnt} : ∀ {l' : List REnt}, SubE p l' l → ∀ s e, lookR l' s = some e → e.s = s ∧ e.c = [] ∧ e.r = s ∧ ∃ y r, selSV p e.x = some y ∧ lookR l s = some ⟨s, [], y, r⟩
 | [], _, s, e, h => by simp [lookR] at h
 | a :: l', hs, s, e, h => by
  rw [lookR_cons] at h
  split at h
  ·rename_i hn
   simp only [Option.some.injEq] at h
   subst h; subst hn
   obtain ⟨⟨h1, h2, y, r, h3, h4⟩, _⟩ := hs
   exact ⟨rfl, h1, h2, y, r, h3, h4⟩
  ·exact SubE.look hs.2 s e h
theorem sel_val {p : List Nat} {M M' : List OB} {env : List Nat} (henv : ∀ (j i : Nat), p[j]? = some i → envAt (p.map (envAt env)) j = envAt env i) (hal : ∀ (j i : Nat), p[j]? = some i → alive M i → alive M' j) :
  ∀ {x y : SV}, selSV p x = some y → den env y = den (p.map (envAt env)) x ∧ (y.ok M → x.ok M') := by
 intro x y g1
 cases x with
 | v _ => simp only [selSV, Option.some.injEq] at g1; subst g1; exact ⟨rfl, fun _ => trivial⟩
 | el _ _ => simp only [selSV, Option.some.injEq] at g1; subst g1; exact ⟨rfl, fun h => h⟩
 | ptr j o =>
  simp only [selSV] at g1
  split at g1
  ·rename_i i hi
   simp only [Option.some.injEq] at g1; subst g1
   rw [nth_eq] at hi
   exact ⟨by simp only [den, henv j i hi], hal j i hi⟩
  ·simp at g1
 | slc j o l c =>
  simp only [selSV] at g1
  split at g1
  ·rename_i i hi
   simp only [Option.some.injEq] at g1; subst g1
   rw [nth_eq] at hi
   exact ⟨by simp only [den, henv j i hi], hal j i hi⟩
  ·simp at g1
theorem Exec.selD {C : Ctx} (p : List Nat) {all : List Oper} {listed : List Bool} {n : Nat} {ends : List Nat} {n0 : Nat} {mask : List Nat} {V1 : View} {q : List (Nat × Bool)} {lr lr' : List REnt} {L' : Fr} {k : List Kt} {L : Fr} {M M' : List OB} {V : View}
  (hq : planOk all ends n listed q = true) (hM : pickMem M p = some M') (hd : nodupN p = true) (hid : idN 0 n0 p = true) (hrow : rowsOnly M' = true) (hs : SubS p L' L) (he : SubE p lr' lr)
  (h : Exec C ⟨.draw ⟨all, listed, n, ends, n0, mask, V1, q, lr'⟩ :: k, L', M'⟩ V) : Exec C ⟨.draw ⟨all, listed, n, ends, n0, mask, V1, [], lr⟩ :: k, L, M⟩ V := by
 refine Exec.of fun FR DF env t w h1 h2 h3 h4 h5 => ?_
 have h4 : ROk env M lr t := h4
 have h5 : DOk0 DF ⟨all, listed, n, ends, n0, mask, V1, [], lr⟩ env V M := h5
 obtain ⟨hlen, hget⟩ := pickMem_sound hM
 obtain ⟨hid1, hid2⟩ := idN_sound hid
 have henv : ∀ (j i : Nat), p[j]? = some i → envAt (p.map (envAt env)) j = envAt env i := fun j i hj => by simp [envAt, hj]
 have hW : WOk C.V0 FR (p.map (envAt env)) V M' w := by
  refine ⟨h2.os, h2.tape, h2.output, h2.frame, h2.le, h2.holds, h2.fresh, by simp [hlen], ?_, ?_, ?_, ?_⟩
  ·intro j o ho
   obtain ⟨i, g1, g2⟩ := hget j o ho
   have := h2.sat i o g2
   rw [henv j i g1]
   rcases rowsOnly_get hrow ho with ⟨x, cs, e, sz, rfl⟩ | ⟨cs, ty, rfl, hv⟩
   ·exact this
   ·refine ⟨?_, allV_ok hv⟩
    rw [this.1]
    congr 3
    refine List.map_congr_left fun y hy => ?_
    cases y with
    | v _ => rfl
    | _ => exact absurd (allV_mem hv _ hy) (by simp)
  ·intro j o a ho ha
   obtain ⟨i, g1, g2⟩ := hget j o ho
   rw [henv j i g1] at ha
   exact h2.apartV i o a g2 ha
  ·intro j o a ho ha
   obtain ⟨i, g1, g2⟩ := hget j o ho
   rw [henv j i g1] at ha
   exact h2.apartF i o a g2 ha
  ·intro j j' o q a hij ho hq ha ha'
   obtain ⟨i, g1, g2⟩ := hget j o ho
   obtain ⟨i', g3, g4⟩ := hget j' q hq
   rw [henv j i g1] at ha
   rw [henv j' i' g3] at ha'
   exact h2.apart i i' o q a (fun e => hij (nodupN_inj hd g1 (e ▸ g3))) g2 g4 ha ha'
 have hal : ∀ (j i : Nat), p[j]? = some i → alive M i → alive M' j := by
  intro j i hj ⟨o, g1, g2⟩
  have hjl : j < M'.length := by rw [hlen]; exact (List.getElem?_eq_some_iff.1 hj).1
  obtain ⟨i', g3, g4⟩ := hget j M'[j] (by simp [hjl])
  rw [hj] at g3
  simp only [Option.some.injEq] at g3
  subst g3
  rw [g1] at g4
  simp only [Option.some.injEq] at g4
  exact ⟨o, by rw [g4]; simp [hjl], g2⟩
 have hpre : M'.take n0 = M.take n0 := by
  apply List.ext_getElem?
  intro j
  rw [List.getElem?_take, List.getElem?_take]
  split
  ·rename_i hj
   have hp := hid2 j hj
   rw [Nat.zero_add] at hp
   have hjl : j < M'.length := by rw [hlen]; omega
   obtain ⟨i, g1, g2⟩ := hget j M'[j] (by simp [hjl])
   rw [hp] at g1
   simp only [Option.some.injEq] at g1
   subst g1
   rw [g2]; simp [hjl]
  ·rfl
 have hn0 : n0 ≤ M.length := h5.lenM
 have hn0' : n0 ≤ M'.length := by rw [hlen]; exact hid1
 have hrd : rdM mask 0 n0 M' = rdM mask 0 n0 M := by
  have e1 : M' = M'.take n0 ++ M'.drop n0 := (List.take_append_drop _ _).symm
  have e2 : M = M.take n0 ++ M.drop n0 := (List.take_append_drop _ _).symm
  rw [e1, e2, rdM_app _ _ _ _ _ (by simp; omega), rdM_app _ _ _ _ _ (by simp; omega), hpre]
 have hD : DOk0 DF ⟨all, listed, n, ends, n0, mask, V1, q, lr'⟩ (p.map (envAt env)) V M' := by
  obtain ⟨r, hr⟩ := h5.pre
  have hl : DF.env.length = n0 := h5.len
  refine ⟨⟨(p.map (envAt env)).drop n0, ?_⟩, h5.len, hn0', h5.v, h5.vle, h5.ok, fun hn => ?_, hq⟩
  ·have : DF.env = (p.map (envAt env)).take n0 := by
    apply List.ext_getElem?
    intro j
    rw [List.getElem?_take]
    split
    ·rename_i hj
     have hp := hid2 j hj
     rw [Nat.zero_add] at hp
     rw [List.getElem?_map, hp, Option.map_some, envAt, hr, List.getElem?_append, if_pos (by omega)]
     rw [List.getElem?_eq_getElem (by omega)]
     rfl
    ·rename_i hj
     rw [List.getElem?_eq_none (by omega)]
   rw [this]
   exact (List.take_append_drop _ _).symm
  ·show DF.M = rdM mask 0 n0 M'
   rw [hrd]
   exact h5.mem hn
 refine h.to FR DF (p.map (envAt env)) t w h1 hW (fun s x hx => ?_) (fun s e hx => ?_) hD
 ·obtain ⟨y, g1, g2⟩ := hs.look s x hx
  obtain ⟨k1, k2⟩ := h3 s y g2
  obtain ⟨q1, q2⟩ := sel_val (M := M) (M' := M') henv hal g1
  exact ⟨by rw [k1, q1], q2 k2⟩
 ·have hx : lookR lr' s = some e := hx
  obtain ⟨g0, g1, g2, y, r, g3, g4⟩ := he.look s e hx
  obtain ⟨k1, _, _⟩ := h4 s _ g4
  obtain ⟨k2, k3⟩ := k1 trivial
  obtain ⟨q1, q2⟩ := sel_val (M := M) (M' := M') henv hal g3
  simp only at k2 k3
  refine ⟨fun _ => ⟨by rw [k2, q1], q2 k3⟩, fun hc => absurd (by rw [g1]; trivial) hc, by rw [g2]⟩
theorem Exec.fork {C : Ctx} (i j : Nat) (pA pB q : List (Nat × Bool)) (I : List REnt → Fr → View → List OB → Prop) (m : Nat) {all : List Oper} {listed : List Bool} (L2 : List Bool) {ends : List Nat} {n0 : Nat} {mask : List Nat} {V1 : View} {lr : List REnt} {n n' : Nat} {oi oj : Oper} {k : List Kt} {L : Fr} {M : List OB} {V : View}
  (hn : n' = n + 1) (hr : rdy listed 0 all = [i, j]) (hi : nth all i = some oi) (hj : nth all j = some oj) (hs : sameL all listed = true)
  (h1 : planOk all ends n (setT listed i) pA = true) (h2 : planOk all ends n (setT listed j) pB = true) (hq : planOk all ends m L2 q = true)
  (hA : (∀ (p : List Nat) {lr0 lr' : List REnt} {L0 L' : Fr} {M0 M' : List OB} {V' : View}, pickMem M0 p = some M' → nodupN p = true → idN 0 n0 p = true → rowsOnly M' = true → SubS p L' L0 → SubE p lr' lr0 → I lr' L' V' M' → Exec C ⟨.draw ⟨all, L2, m, ends, n0, mask, V1, [], lr0⟩ :: k, L0, M0⟩ V') →
   Exec C ⟨.ops [oi] all lr :: .draw ⟨all, setT listed i, n, ends, n0, mask, V1, pA, lr⟩ :: k, L, M⟩ V)
  (hB : (∀ (p : List Nat) {lr0 lr' : List REnt} {L0 L' : Fr} {M0 M' : List OB} {V' : View}, pickMem M0 p = some M' → nodupN p = true → idN 0 n0 p = true → rowsOnly M' = true → SubS p L' L0 → SubE p lr' lr0 → I lr' L' V' M' → Exec C ⟨.draw ⟨all, L2, m, ends, n0, mask, V1, [], lr0⟩ :: k, L0, M0⟩ V') →
   Exec C ⟨.ops [oj] all lr :: .draw ⟨all, setT listed j, n, ends, n0, mask, V1, pB, lr⟩ :: k, L, M⟩ V)
  (h : ∀ lr' L' V' M', I lr' L' V' M' → Exec C ⟨.draw ⟨all, L2, m, ends, n0, mask, V1, q, lr'⟩ :: k, L', M'⟩ V') : Exec C ⟨.draw ⟨all, listed, n', ends, n0, mask, V1, [], lr⟩ :: k, L, M⟩ V :=
 Exec.pick2 (i := i) (j := j) pA pB hn hr hi hj hs h1 h2
  (hA fun p _ _ _ _ _ _ _ g1 g2 g3 g4 g5 g6 g7 => Exec.selD p hq g1 g2 g3 g4 g5 g6 (h _ _ _ _ g7))
  (hB fun p _ _ _ _ _ _ _ g1 g2 g3 g4 g5 g6 g7 => Exec.selD p hq g1 g2 g3 g4 g5 g6 (h _ _ _ _ g7))

/-! ### A slice literal behind guards -/
end Go.Proofs.YtglnnhmmipopiaaGreat

set_option linter.all false
namespace Go.Proofs.YtglnnhmmipopiaaGreat
theorem RowRep.ints {k : IntKind} {V : View} : ∀ {l : List Int} {cs : List Value}, RowRep (cInt k) V l cs → cs = l.map (Value.int k)
 | [], cs, h => h
 | x :: l, cs, ⟨e, r, h0, h1, h2⟩ => by
  subst h0
  rw [show e = [.int k x] from h1, RowRep.ints h2]; rfl
theorem RowRep.ofInts {k : IntKind} {V : View} : ∀ (l : List Int), RowRep (cInt k) V l (l.map (Value.int k))
 | [] => rfl
 | x :: l => ⟨[.int k x], _, rfl, rfl, RowRep.ofInts l⟩
def sortL (l : List Int) : List Int := l.mergeSort fun x y => decide (x ≤ y)
def compactL (l : List Int) : List Int := Go.Lib.compact l
theorem sortI_row {P : Program} {f : Nat} {a : Option Addr} {n c e : Nat} {l : List Int} {cs : List Value} {V : View} (hr : RowRep (cInt .i64) V l cs)
  (hs : ∀ cs', cs' = l.map (Value.int .i64) → SpecM P f [.slice a n c] ⟨.slice a n c, cs', e, 1⟩ V (fun V' v r' => v = .tuple #[] ∧ V' = V ∧ r' = ⟨.slice a n c, (sortL l).map (Value.int .i64), e, 1⟩)) :
  SpecM P f [.slice a n c] ⟨.slice a n c, cs, e, 1⟩ V (fun V' v r' => v = .tuple #[] ∧ V' = V ∧ r' = ⟨.slice a n c, (sortL l).map (Value.int .i64), e, 1⟩) := hs cs hr.ints
theorem compactI_row {P : Program} {f : Nat} {a : Option Addr} {n c e : Nat} {l : List Int} {cs : List Value} {V : View} (hr : RowRep (cInt .i64) V l cs)
  (hs : ∀ cs', cs' = l.map (Value.int .i64) → SpecM P f [.slice a n c] ⟨.slice a n c, cs', e, 1⟩ V (fun V' v r' => v = .slice a (compactL l).length c ∧ V' = V ∧ r' = ⟨.slice a (compactL l).length c, (compactL l).map (Value.int .i64), e, 1⟩)) :
  SpecM P f [.slice a n c] ⟨.slice a n c, cs, e, 1⟩ V (fun V' v r' => v = .slice a (compactL l).length c ∧ V' = V ∧ r' = ⟨.slice a (compactL l).length c, (compactL l).map (Value.int .i64), e, 1⟩) := hs cs hr.ints
end Go.Proofs.YtglnnhmmipopiaaGreat

set_option linter.all false
namespace Go.Proofs.YtglnnhmmipopiaaGreat
open Go.ChangeShapes Go.WideShapes Go.ChangeAt Go.RowKit
theorem own : ownKnob Tryz.prog.godebug = none := by kernel_rfl
theorem laidOut : laidOutB Tryz.prog = true := by kernel_rfl
theorem trodAll_stays {H : Type} {enc : TypeId × Value → H} {W W' : World} (hb : Below W.heap.size W W') {sp : Nat → Bool} : ∀ {ts : List TypeId} {vs : List Value} {ds : List (DataW H)} {ps : List MemPlace},
  (∀ t ∈ ts, Tryz.prog.readableRec t = true ∧ t < Tryz.prog.types.size) → DataW.TrodAll enc Tryz.prog W 0 (fun _ => true) true ts vs ds ps → (∀ x ∈ ps, x.block < W.heap.size) → (∀ x ∈ ps, sp x.block = true) →
   DataW.TrodAll enc Tryz.prog W' 0 sp true ts vs ds ps
 | [], _, _, _, _, h, _, _ => by
  obtain ⟨rfl, rfl, rfl⟩ := trodAll_nil h
  exact rfl
 | t :: ts, _, _, _, hts, h, hlt, hsp => by
  obtain ⟨v, vs1, d, ds1, a, b, rfl, rfl, rfl, h1, h2⟩ := trodAll_cons h
  obtain ⟨r1, r2⟩ := hts t (by simp)
  exact ⟨a, b, WideElems.Trod_stays laidOut r1 r2 h1 (fun x hx => hb.same (hlt x (by simp [hx]))) (fun x hx => hsp x (by simp [hx])),
   trodAll_stays hb (fun t ht => hts t (by simp [ht])) h2 (fun x hx => hlt x (by simp [hx])) (fun x hx => hsp x (by simp [hx])), rfl⟩
set_option maxRecDepth 20000 in
theorem law_post {H : Type} {enc : TypeId × Value → H} {f : Func} {s : ChangeSpec} {W W' : World} {args : Array Value} {ds gs : List (DataW H)} {before : List MemPlace} (hvars : s.vars = []) (hres : f.resultTypes = #[4])
  (hts : ∀ t ∈ f.params.toList, Tryz.prog.readableRec t = true ∧ t < Tryz.prog.types.size) (hW : DataW.Whole enc Tryz.prog f.params.toList s.vars false W args.toList ds gs before)
  (hfn : s.fn H (ds ++ gs) = { results := [.lit (.bool true)], args := ds }) (hb : Below W.heap.size W W') : s.post enc Tryz.prog f false true false false W args (.bool true) W' := by
 have hlt := hW.lt
 have hW' := hW
 obtain ⟨p, q, hA, hV, hps, hz, hn⟩ := hW
 rw [hvars] at hV
 obtain ⟨rfl, rfl⟩ := trodVars_none hV
 rw [List.append_nil] at hps
 subst hps
 have hr : ∀ (b : Nat) (sp : Nat → Bool) (hd : Bool), DataW.TrodAll enc Tryz.prog W' b sp hd f.resultTypes.toList ((Value.bool true).resultList f.resultTypes.size) (s.fn H (ds ++ [])).results [] := by
  intro b sp hd
  rw [hres, hfn]
  exact trodAll_cons_mk (shut_bool Tryz.underlying4 _) trodAll_mk0
 have ha : ∀ sp : Nat → Bool, (∀ x ∈ before, sp x.block = true) → DataW.TrodAll enc Tryz.prog W' 0 sp true f.params.toList args.toList (s.fn H (ds ++ [])).args before := by
  intro sp hsp
  rw [hfn]
  exact trodAll_stays hb hts hA hlt hsp
 have hvs : ∀ sp : Nat → Bool, DataW.TrodVars enc Tryz.prog W' sp s.vars (s.fn H (ds ++ [])).vars [] := by
  intro sp
  rw [hvars, hfn]
  rfl
 have hold : ∀ x ∈ before, (fun b => decide (b < W.heap.size)) x.block = true := fun x hx => by simpa using hlt x hx
 refine ⟨ds, [], before, [], before, [], hW', hr _ _ _, ha _ hold, hvs _, World.keptBut_mono (fun x hx => ⟨hx, .inr (by simpa using hx)⟩) (hb.frame (· ∈ before)), fun _ => ?_⟩
 refine ⟨?_, _, _, ([] ++ before) ++ [], ⟨[] ++ before, [], trodAll_append (ha _ (fun _ _ => rfl)) (hr _ _ _), hvs _, rfl, ?_, ?_⟩, ?_⟩
 ·rw [show f.resultTypes = #[4] from hres]
  intro j t r hj hr'
  match j, hj, hr' with
  | 0, hj, hr' =>
   simp [Value.resultList] at hj hr'
   subst hj; subst hr'
   exact okWide_bool_mk Tryz.underlying4 _
 ·intro b off hp
  have hp' : MemPlace.cell b off ∈ before := by simpa using hp
  rw [hb.frozen (p := ⟨b, off, none⟩) (hlt _ hp')]
  exact hz b off (by simpa using hp')
 ·intro h
  simp at h
 ·intro x hx _
  simpa using hx
end Go.Proofs.YtglnnhmmipopiaaGreat

set_option linter.all false
namespace Go.Proofs.YtglnnhmmipopiaaGreat
open Go.RowKit Go.Maps Go.Sort Go.Shelf Go.Proofs
variable {P : Program} {ρ : Ren}
end Go.Proofs.YtglnnhmmipopiaaGreat

set_option linter.all false
namespace Go.Proofs.YtglnnhmmipopiaaGreat
open Go.RowKit Go.Proofs
def frAll (w : World) : Frm := ⟨w.os, w.tape, w.output, fun b => w.heap[b]?⟩
theorem wok_all {V : View} {w : World} (hw : Holds V w) : WOk V (frAll w) [] V [] w :=
 ⟨rfl, rfl, rfl, fun _ _ h => h, VLe.refl V, hw, fun _ _ h => .inl h, rfl, fun i o h => by simp at h, fun i o a h => by simp at h, fun i o a h => by simp at h, fun i j o o' a _ h => by simp at h⟩
theorem wok_below {V V' : View} {w w' : World} {env : List Nat} {M : List OB} (h : WOk V (frAll w) env V' M w') : Below w.heap.size w w' := by
 have hblk : ∀ k, k < w.heap.size → w'.heap[k]? = w.heap[k]? := fun k hk => by
  have : w.heap[k]? = some w.heap[k] := by simp [hk]
  rw [this]
  exact h.frame k _ this
 refine ⟨h.os, h.tape, h.output, ?_, hblk⟩
 rcases Nat.eq_zero_or_pos w.heap.size with h0 | h0
 ·omega
 ·have := hblk (w.heap.size - 1) (by omega)
  have h1 : w.heap[w.heap.size - 1]? = some w.heap[w.heap.size - 1] := by simp [h0]
  rw [h1] at this
  have := (Array.getElem?_eq_some_iff.1 this).1
  omega
abbrev noEnd (P : Program) (T : List TyD) (fn : Func) (nt : Nat) (V : View) : Ctx := ⟨P, T, fn, nt, V, fun _ _ _ => False⟩
theorem endP_no {P : Program} {T : List TyD} {fn : Func} {nt : Nat} {V : View} {FR : Frm} {e : Ending} {w : World} (h : endP (noEnd P T fn nt V) FR e w) : False := by
 obtain ⟨v, env, V', M, _, _, h⟩ := h
 exact h
theorem rows_in {P : Program} {n : Nat} {row : String} {args : Array Value} {w : World} {R : Value → World → Prop} (h : Rows P row args w R) : RowsIn Fence.wide n P row args w R :=
 fun c cs _ => let ⟨v, w', r, s⟩ := h c cs; ⟨v, w', r, stepsIn_wide.2 s⟩
theorem lok_args (args : List Value) (k : Nat) : LOk [] [] (argFr 0 args) (⟨args⟩ ++ Array.replicate k undef) := by
 intro s x hx
 obtain ⟨v, rfl, _, h2⟩ := argFr_look args 0 s x hx
 refine ⟨?_, trivial⟩
 have hs : s < args.length := (List.getElem?_eq_some_iff.1 h2).1
 rw [Array.getElem?_append]
 simpa [hs, den] using h2
theorem holds_below {V : View} {w w' : World} (h : Holds V w) (hb : Below w.heap.size w w') : Holds V w' := fun a x hx => by
 have h1 := h a x hx
 have hlt : a.block < w.heap.size := by
  refine Nat.lt_of_not_le fun hn => ?_
  have : w.heap[a.block]? = none := by simp; omega
  simp [World.cell?, this] at h1
 rw [World.cell?_of_block (hb.block _ hlt)]; exact h1
structure ItSt (V : View) (w0 : World) (J : List Int → World → Prop) (nt : Nat) (L : Fr) (pre : List Int) (a : Act) (w : World) : Prop where
 df : a.defers = []
 sz : a.tmps.size = nt
 lk : LOk [] [] L a.tmps
 hv : Holds V w
 bl : Below w0.heap.size w0 w
 j : J pre w
section
variable {P : Program} {T : List TyD} {fn : Func} {V : View} {w0 : World} {J : List Int → World → Prop} {nt B n : Nat} {L : Fr} {pre : List Int} {a : Act} {w : World} {I : Fr → View → Prop} {Q : Exit → Act → World → Prop}
end
end Go.Proofs.YtglnnhmmipopiaaGreat

set_option linter.all false
namespace Go.Proofs.YtglnnhmmipopiaaGreat
def FnSt1 {σ α : Type} (P : Program) (f : Nat) (ca : List Value) (V : View) (mk : α → Value) (rel : View → σ → RowD → RowD → RowD → Prop) (g : σ → α → Option σ) : Prop :=
 ∀ V', VLe V V' → ∀ s r0 r1 r2 y s', rel V' s r0 r1 r2 → g s y = some s' → SpecR P f (mk y :: ca) [r0, r1, r2] V' (fun V'' v rs' => v = .tuple ⟨[]⟩ ∧ ∃ q0 q1 q2, rs' = [q0, q1, q2] ∧ rel V'' s' q0 q1 q2)
def FnSt2 {σ α α' : Type} (P : Program) (f : Nat) (ca : List Value) (V : View) (mk : α → Value) (mk' : α' → Value) (rel : View → σ → RowD → RowD → RowD → Prop) (g : σ → α → α' → Option σ) : Prop :=
 ∀ V', VLe V V' → ∀ s r0 r1 r2 y y' s', rel V' s r0 r1 r2 → g s y y' = some s' → SpecR P f (mk y :: mk' y' :: ca) [r0, r1, r2] V' (fun V'' v rs' => v = .tuple ⟨[]⟩ ∧ ∃ q0 q1 q2, rs' = [q0, q1, q2] ∧ rel V'' s' q0 q1 q2)
theorem FnSt1.mono {σ α : Type} {P : Program} {f : Nat} {ca : List Value} {V V' : View} {mk : α → Value} {rel : View → σ → RowD → RowD → RowD → Prop} {g : σ → α → Option σ} (h : FnSt1 P f ca V mk rel g) (hv : VLe V V') : FnSt1 P f ca V' mk rel g :=
 fun V2 h2 => h V2 (hv.trans h2)
theorem FnSt2.mono {σ α α' : Type} {P : Program} {f : Nat} {ca : List Value} {V V' : View} {mk : α → Value} {mk' : α' → Value} {rel : View → σ → RowD → RowD → RowD → Prop} {g : σ → α → α' → Option σ} (h : FnSt2 P f ca V mk mk' rel g) (hv : VLe V V') : FnSt2 P f ca V' mk mk' rel g :=
 fun V2 h2 => h V2 (hv.trans h2)
theorem Spec.pure {P : Program} {f : Nat} {args : List Value} {V : View} {x : Value} (hf : IsFn P f) (h : ∀ w, Calls P f ⟨args⟩ w fun e w' => e = .returned x ∧ w' = w) : Spec P f args V (fun _ v => v = x) :=
 ⟨hf, fun w hw => (h w).mono fun e w' ⟨h1, h2⟩ => by
  subst h1; subst h2
  exact ⟨x, V, rfl, Go.RowKit.Below.refl _ _, VLe.refl V, hw, fun a y h => .inl h, rfl⟩⟩
end Go.Proofs.YtglnnhmmipopiaaGreat

set_option linter.all false
namespace Go.Proofs.YtglnnhmmipopiaaGreat
open Go.RowKit
section
variable {C : Ctx} (hT : TOk C.P C.T) {o : Oper} {rest all : List Oper} {lr : List REnt} {k : List Kt} {L : Fr} {M : List OB} {V : View} {d : Nat}
include hT
end
end Go.Proofs.YtglnnhmmipopiaaGreat
