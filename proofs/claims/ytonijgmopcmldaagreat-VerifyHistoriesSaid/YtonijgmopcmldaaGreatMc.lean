/-
  A FRAMEWORK FOR PROOFS ABOUT CALLS: its parts Ge Gf Gg Gh Gd Pc Ia Ib Ja Jb put together.
  Conditions: the table of types is the program's (TOk).
-/
import Derived.Test.YtonijgmopcmldaaGreatMb
import Derived.Lib.SliceRun
import Derived.Lib.Overlaps
import Derived.Lib.AppendZerosOnto
import Derived.Test.YtonijgmopcmldaaGreatRows
import Derived.ProofKit
import Derived.OpenShut
import Derived.JoinedCond
import Derived.Shelf.SlIterI.Collect

set_option linter.all false
namespace Go.Proofs.YtonijgmopcmldaaGreat

/-! ### Own memory, sorted anew -/
def pickMem {α : Type} (M : List α) : List Nat → Option (List α)
  | [] => some []
  | i :: p => match nth M i, pickMem M p with
    | some b, some r => some (b :: r)
    | _, _ => none
theorem pickMem_sound {α : Type} {M : List α} : ∀ {p : List Nat} {r : List α}, pickMem M p = some r → r.length = p.length ∧ ∀ (j : Nat) (o : α), r[j]? = some o → ∃ i, p[j]? = some i ∧ M[i]? = some o
  | [], r, h => by simp only [pickMem, Option.some.injEq] at h; subst h; simp
  | i :: p, r, h => by
    simp only [pickMem] at h
    split at h
    · rename_i b r' hb hr
      simp only [Option.some.injEq] at h; subst h
      obtain ⟨h1, h2⟩ := pickMem_sound hr
      refine ⟨by simp [h1], ?_⟩
      intro j o ho
      cases j with
      | zero => simp at ho; subst ho; exact ⟨i, rfl, by rw [← nth_eq]; exact hb⟩
      | succ j => simp at ho; obtain ⟨i', g1, g2⟩ := h2 j o ho; exact ⟨i', by simpa using g1, g2⟩
    · simp at h
def nodupN : List Nat → Bool
  | [] => true
  | a :: l => match inL a l with
    | true => false
    | false => nodupN l
theorem nodupN_inj : ∀ {l : List Nat}, nodupN l = true → ∀ {i j a : Nat}, l[i]? = some a → l[j]? = some a → i = j
  | [], _, i, j, a, h, _ => by simp at h
  | b :: l, hn, i, j, a, h, h' => by
    simp only [nodupN] at hn
    split at hn
    · simp at hn
    · rename_i hb
      have hb' : b ∉ l := fun hm => by rw [inL_iff.2 hm] at hb; simp at hb
      cases i with
      | zero =>
        cases j with
        | zero => rfl
        | succ j =>
          simp at h h'
          subst h
          exact absurd (List.mem_of_getElem? h') hb'
      | succ i =>
        cases j with
        | zero =>
          simp at h h'
          subst h'
          exact absurd (List.mem_of_getElem? h) hb'
        | succ j =>
          simp at h h'
          rw [nodupN_inj hn h h']
def selSV (p : List Nat) : SV → Option SV
  | .ptr j o => match nth p j with
    | some i => some (.ptr i o)
    | none => none
  | .slc j o l c => match nth p j with
    | some i => some (.slc i o l c)
    | none => none
  | x => some x
def SubS (p : List Nat) : Fr → Fr → Prop
  | [], _ => True
  | (s, x) :: L', L => (∃ y, selSV p x = some y ∧ lookL L s = some y) ∧ SubS p L' L
theorem SubS.look {p : List Nat} {L : Fr} : ∀ {L' : Fr}, SubS p L' L → ∀ s x, lookL L' s = some x → ∃ y, selSV p x = some y ∧ lookL L s = some y
  | [], _, s, x, h => by simp [lookL] at h
  | (n, y) :: L', hs, s, x, h => by
    rw [lookL_cons] at h
    split at h
    · rename_i hn
      simp only [Option.some.injEq] at h
      subst h; subst hn
      exact hs.1
    · exact SubS.look hs.2 s x h
theorem Exec.pick2 {C : Ctx} {all : List Oper} {listed : List Bool} {ends : List Nat} {n0 : Nat} {mask : List Nat} {V1 : View} {lr : List REnt} {n n' i j : Nat} {oi oj : Oper} {k : List Kt} {L : Fr} {M : List OB} {V : View} (p q : List (Nat × Bool)) (hn : n' = n + 1) (hr : rdy listed 0 all = [i, j]) (hi : nth all i = some oi) (hj : nth all j = some oj)
    (hs : sameL all listed = true) (hp : planOk all ends n (setT listed i) p = true) (hq : planOk all ends n (setT listed j) q = true)
    (h1 : Exec C ⟨.ops [oi] all lr :: .draw ⟨all, setT listed i, n, ends, n0, mask, V1, p, lr⟩ :: k, L, M⟩ V)
    (h2 : Exec C ⟨.ops [oj] all lr :: .draw ⟨all, setT listed j, n, ends, n0, mask, V1, q, lr⟩ :: k, L, M⟩ V) : Exec C ⟨.draw ⟨all, listed, n', ends, n0, mask, V1, [], lr⟩ :: k, L, M⟩ V := by
  subst hn
  refine Exec.pick (D := ⟨all, listed, n + 1, ends, n0, mask, V1, [], lr⟩) hs rfl (by simp only; rw [hr]; simp) fun x hx o ho => ?_
  simp only at hx ho ⊢
  rw [hr] at hx
  simp only [List.mem_cons, List.not_mem_nil, or_false] at hx
  rcases hx with rfl | rfl
  · rw [hi] at ho; simp only [Option.some.injEq] at ho; subst ho; exact ⟨p, hp, h1⟩
  · rw [hj] at ho; simp only [Option.some.injEq] at ho; subst ho; exact ⟨q, hq, h2⟩

/-! ### Several rows handed over -/
def SpecR (P : Program) (f : Nat) (args : List Value) (rs : List RowD) (V : View) (R : View → Value → List RowD → Prop) : Prop :=
  IsFn P f ∧ ∀ FR env w, WOk V FR env V (rs.map RowD.ob) w → Calls P f ⟨args⟩ w fun e w' => ∃ v V' env' rs', e = .returned v ∧ rs'.length = rs.length ∧ WOk V FR env' V' (rs'.map RowD.ob) w' ∧ R V' v rs'
theorem SpecR.mono {P : Program} {f : Nat} {args : List Value} {rs : List RowD} {V : View} {R R' : View → Value → List RowD → Prop} (h : SpecR P f args rs V R) (hr : ∀ V' v rs', VLe V V' → R V' v rs' → R' V' v rs') : SpecR P f args rs V R' :=
  ⟨h.1, fun FR env w h1 => (h.2 FR env w h1).mono fun _ _ ⟨v, V', env', rs', p1, p2, p3, p4⟩ => ⟨v, V', env', rs', p1, p2, p3, hr V' v rs' p3.le p4⟩⟩
def RowsEnd (n : Nat) (R : View → Value → List RowD → Prop) (V : View) (v : Value) (M : List OB) : Prop := ∃ rs' : List RowD, takeL n M = rs'.map RowD.ob ∧ rs'.length = n ∧ R V v rs'
theorem takeL_eq {α : Type} : ∀ (n : Nat) (l : List α), takeL n l = l.take n
  | 0, l => by simp [takeL]
  | n + 1, [] => by simp [takeL]
  | n + 1, a :: l => by simp [takeL, takeL_eq n l]
theorem rows_get {rs : List RowD} {i : Nat} {o : OB} (h : (rs.map RowD.ob)[i]? = some o) : ∃ r, rs[i]? = some r ∧ o = .row r.x r.cs r.e r.sz := by
  rw [List.getElem?_map] at h
  cases hr : rs[i]? with
  | none => rw [hr] at h; simp at h
  | some r => rw [hr] at h; simp at h; exact ⟨r, rfl, h.symm⟩
theorem WOk.rows {V0 V : View} {FR : Frm} {env : List Nat} {M : List OB} {w : World} (h : WOk V0 FR env V M w) {rs : List RowD} {n : Nat} (hM : takeL n M = rs.map RowD.ob) : WOk V0 FR (env.take n) V (rs.map RowD.ob) w := by
  rw [takeL_eq] at hM
  have hget : ∀ (i : Nat) (o : OB), (rs.map RowD.ob)[i]? = some o → M[i]? = some o ∧ i < n ∧ ∃ r : RowD, o = .row r.x r.cs r.e r.sz := by
    intro i o ho
    obtain ⟨r, _, hr⟩ := rows_get ho
    rw [← hM, List.getElem?_take] at ho
    split at ho
    · rename_i hi; exact ⟨ho, hi, r, hr⟩
    · simp at ho
  refine ⟨h.os, h.tape, h.output, h.frame, h.le, h.holds, h.fresh, ?_, ?_, ?_, ?_, ?_⟩
  · rw [← hM]; simp [h.len]
  · intro i o ho
    obtain ⟨g1, g2, r, rfl⟩ := hget i o ho
    exact h.sat i _ g1
  · intro i o a ho ha
    obtain ⟨g1, g2, r, rfl⟩ := hget i o ho
    exact h.apartV i _ a g1 ha
  · intro i o a ho ha
    obtain ⟨g1, g2, r, rfl⟩ := hget i o ho
    exact h.apartF i _ a g1 ha
  · intro i j o q a hij ho hq ha ha'
    obtain ⟨g1, g2, r, rfl⟩ := hget i o ho
    obtain ⟨g3, g4, r', rfl⟩ := hget j q hq
    exact h.apart i j _ _ a hij g1 g3 ha ha'
theorem SpecR.enter {P : Program} {T : List TyD} {f nt : Nat} {fn : Func} {c : Code} {args : List Value} {rs : List RowD} {M : List OB} {V : View} {R : View → Value → List RowD → Prop} {L : Fr}
    (hf : P.funcs[f]? = some fn) (hb : fn.body = some c) (hname : (fn.name == "runtime.NumGoroutine") = false) (hnt : fn.ntmps = nt) (hlen : Nat.ble args.length nt = true) (hL : argFr 0 args = L) (hM : rs.map RowD.ob = M)
    (h : Exec ⟨P, T, fn, nt, V, RowsEnd rs.length R⟩ ⟨[.code c], L, M⟩ V) : SpecR P f args rs V R := by
  subst hM
  refine ⟨⟨fn, hf, by rw [hb]; rfl, hname⟩, fun FR env w hW => ?_⟩
  have hle := Nat.le_of_ble_eq_true hlen
  have hcall := calls_of_wp (P := P) (f := f) (args := ⟨args⟩) (w := w) (R := endP ⟨P, T, fn, nt, V, RowsEnd rs.length R⟩ FR) hf hb (by
    refine h.to0 (k := [.code c]) rfl (FR := FR) (env := env) (t := (⟨args⟩ : Array Value) ++ Array.replicate (fn.ntmps - args.length) undef) ?_ hW ?_ .none
    · simp [hnt]; omega
    · intro s x hx
      rw [← hL] at hx
      obtain ⟨v, rfl, _, h2⟩ := argFr_look args 0 s x hx
      refine ⟨?_, trivial⟩
      have hs : s < args.length := (List.getElem?_eq_some_iff.1 h2).1
      rw [Array.getElem?_append]
      simpa [hs, den] using h2)
  refine hcall.mono fun e w' hp => ?_
  obtain ⟨v, env', V', M', h1, hW', rs', hM', hl', hR⟩ := hp
  exact ⟨v, V', env'.take rs.length, rs', h1, hl', hW'.rows hM', hR⟩
def putAll (M : List OB) : List Nat → List OB → Option (List OB)
  | [], [] => some M
  | i :: is, b :: bs => match setN M i b with
    | some M1 => putAll M1 is bs
    | none => none
  | _, _ => none
def wrAll (k : List Kt) : List Nat → Bool
  | [] => true
  | i :: is => match wrOk i k with
    | true => wrAll k is
    | false => false
theorem putAll_sound : ∀ {is : List Nat} {bs : List OB} {M M' : List OB}, putAll M is bs = some M' → (∀ b ∈ bs, b ≠ .gone) →
    M'.length = M.length ∧ bs.length = is.length ∧ (∀ (j : Nat) (q : OB), M'[j]? = some q → (∃ p : Nat, is[p]? = some j ∧ bs[p]? = some q) ∨ (j ∉ is ∧ M[j]? = some q)) ∧ (∀ i, alive M i → alive M' i)
  | [], [], M, M', h, _ => by simp only [putAll, Option.some.injEq] at h; subst h; simp
  | [], _ :: _, M, M', h, _ => by simp [putAll] at h
  | _ :: _, [], M, M', h, _ => by simp [putAll] at h
  | i :: is, b :: bs, M, M', h, hb => by
    simp only [putAll] at h
    split at h
    · rename_i M1 h1
      obtain ⟨hi, rfl⟩ := setN_sound h1
      obtain ⟨e1, e2, e3, e4⟩ := putAll_sound h (fun b' hb' => hb b' (by simp [hb']))
      refine ⟨by rw [e1]; simp, by simp [e2], ?_, fun j hj => e4 j (alive_set (hb b (by simp)) hj)⟩
      intro j q hq
      rcases e3 j q hq with ⟨p, g1, g2⟩ | ⟨g1, g2⟩
      · exact .inl ⟨p + 1, by simpa using g1, by simpa using g2⟩
      · rw [List.getElem?_set] at g2
        split at g2
        · rename_i hij
          subst hij
          simp [hi] at g2
          exact .inl ⟨0, rfl, by simp [g2]⟩
        · rename_i hij
          exact .inr ⟨by simp only [List.mem_cons, not_or]; exact ⟨fun e => hij e.symm, g1⟩, g2⟩
    · simp at h
theorem DOk.writeAll {DF : DFr} {env : List Nat} {V : View} {rest all : List Oper} {lr : List REnt} {k : List Kt} : ∀ {is : List Nat} {bs : List OB} {M M' : List OB}, putAll M is bs = some M' → wrAll k is = true →
    DOk DF env V M (.ops rest all lr :: k) → DOk DF env V M' (.ops rest all lr :: k)
  | [], [], M, M', h, _, hD => by simp only [putAll, Option.some.injEq] at h; subst h; exact hD
  | [], _ :: _, M, M', h, _, _ => by simp [putAll] at h
  | _ :: _, [], M, M', h, _, _ => by simp [putAll] at h
  | i :: is, b :: bs, M, M', h, hk, hD => by
    simp only [putAll] at h
    simp only [wrAll] at hk
    split at hk
    · rename_i hk1
      split at h
      · rename_i M1 h1
        obtain ⟨hi, rfl⟩ := setN_sound h1
        exact DOk.writeAll h hk (DOk.write hk1 hD)
      · simp at h
    · simp at hk
theorem ROk.alive {env : List Nat} {M M' : List OB} {lr : List REnt} {t : Array Value} (h : ROk env M lr t) (hal : ∀ i, alive M i → alive M' i) : ROk env M' lr t := fun s e he =>
  ⟨fun hc => ⟨((h s e he).1 hc).1, SV.ok_mono hal ((h s e he).1 hc).2⟩, (h s e he).2⟩
theorem LOk.alive {env : List Nat} {M M' : List OB} {L : Fr} {t : Array Value} (h : LOk env M L t) (hal : ∀ i, alive M i → alive M' i) : LOk env M' L t := fun s x hx => ⟨(h s x hx).1, SV.ok_mono hal (h s x hx).2⟩
open Classical in

theorem Exec.callR {C : Ctx} (is : List Nat) {o : Oper} {rest all : List Oper} {lr : List REnt} {k : List Kt} {L : Fr} {M : List OB} {V : View} {d f : Nat} {args : List Value} {rs : List RowD} {bs : List OB} {R : View → Value → List RowD → Prop}
    (hh : headOf C.nt all lr L o = some ([], d)) (hc : callOf (opd L lr) [] o.op = some (f, args)) (hi : pickMem M is = some bs) (hbs : bs = rs.map RowD.ob) (hnd : nodupN is = true) (hk : wrAll k is = true) (hs : SpecR C.P f args rs V R)
    (h : ∀ V' v rs', VLe V V' → R V' v rs' → ∃ M', putAll M is (rs'.map RowD.ob) = some M' ∧ Exec C ⟨.ops rest all (⟨d, [], .v v, d⟩ :: lr) :: k, (d, .v v) :: L, M'⟩ V') : Exec C ⟨.ops (o :: rest) all lr :: k, L, M⟩ V := by
  subst hbs
  refine Exec.of fun FR DF env t w h1 h2 h3 h4 h5 => ?_
  obtain ⟨hg, hd, hn, hf, _⟩ := headOf_some hh
  have hdt : d < t.size := by rw [h1]; simpa [Nat.blt_eq] using hn
  have hw := guard_sound h4 hg
  show wpList C.P ⟨all⟩ (post C FR DF k) (o :: rest) ⟨t, []⟩ w
  refine wpList_want ?_
  rw [if_pos (hw.2 trivial)]
  obtain ⟨hfn, hcall⟩ := hs
  unfold Oper.wp
  rw [callOf_wp (opd_sound h3 h4) (G := []) trivial hc hfn w]
  obtain ⟨hlen, hget⟩ := pickMem_sound hi
  -- whose blocks are handed over
  let Hd : Nat → Prop := fun b => ∃ r ∈ rs, r.x.ownBlock = some b
  have hHd : ∀ b, Hd b → ∃ (i : Nat) (r : RowD), i ∈ is ∧ M[i]? = some (.row r.x r.cs r.e r.sz) ∧ r.x.ownBlock = some b := by
    intro b ⟨r, hr, hb⟩
    obtain ⟨j, hj⟩ := List.mem_iff_getElem?.1 hr
    obtain ⟨i, g1, g2⟩ := hget j r.ob (by rw [List.getElem?_map, hj]; rfl)
    exact ⟨i, r, List.mem_of_getElem? g1, g2, hb⟩
  let FR' : Frm := ⟨w.os, w.tape, w.output, fun b => if Hd b then none else w.heap[b]?⟩
  have hFR' : ∀ b, FR'.blk b = none → Hd b ∨ w.heap.size ≤ b := by
    intro b hb
    simp only [FR'] at hb
    split at hb
    · rename_i h; exact .inl h
    · right
      refine Nat.le_of_not_lt fun hl => ?_
      simp [hl] at hb
  have hFRn : ∀ b, w.heap.size ≤ b → FR.blk b = none := by
    intro b hb
    cases hv : FR.blk b with
    | none => rfl
    | some x =>
      have := h2.frame b x hv
      have := (Array.getElem?_eq_some_iff.1 this).1
      omega
  have hHdF : ∀ b, Hd b → FR.blk b = none := by
    intro b hb
    obtain ⟨i, r, _, g2, g3⟩ := hHd b hb
    exact h2.apartF i _ ⟨b, 0, none⟩ g2 g3
  have hkeep : ∀ b, ¬ Hd b → FR'.blk b = w.heap[b]? := fun b hb => if_neg hb
  have hW0 : WOk V FR' (List.replicate rs.length 0) V (rs.map RowD.ob) w := by
    refine ⟨rfl, rfl, rfl, fun b o ho => ?_, VLe.refl V, h2.holds, fun _ _ h => .inl h, by simp, ?_, ?_, ?_, ?_⟩
    · simp only [FR'] at ho
      split at ho
      · simp at ho
      · exact ho
    · intro j o ho
      obtain ⟨r, _, rfl⟩ := rows_get ho
      obtain ⟨i, _, g2⟩ := hget j _ ho
      exact h2.sat i _ g2
    · intro j o a ho ha
      obtain ⟨r, _, rfl⟩ := rows_get ho
      obtain ⟨i, _, g2⟩ := hget j _ ho
      exact h2.apartV i _ a g2 ha
    · intro j o a ho ha
      obtain ⟨r, hr, rfl⟩ := rows_get ho
      exact if_pos ⟨r, List.mem_of_getElem? hr, ha⟩
    · intro j j' o q a hij ho hq ha ha'
      obtain ⟨r, _, rfl⟩ := rows_get ho
      obtain ⟨r', _, rfl⟩ := rows_get hq
      obtain ⟨i, g1, g2⟩ := hget j _ ho
      obtain ⟨i', g3, g4⟩ := hget j' _ hq
      exact h2.apart i i' _ _ a (fun e => hij (nodupN_inj hnd g1 (e ▸ g3))) g2 g4 ha ha'
  refine (hcall FR' _ w hW0).mono fun e' w' ⟨v, V', env', rs', p1, p2, p3, p4⟩ => ?_
  subst p1
  obtain ⟨M', hM', hE⟩ := h V' v rs' p3.le p4
  obtain ⟨e1, e2, e3, e4⟩ := putAll_sound hM' (fun b hb => by
    obtain ⟨r, _, rfl⟩ := List.mem_map.1 hb
    simp [RowD.ob])
  have hold : ∀ (j : Nat) (q : OB), j ∉ is → M[j]? = some q → ∀ a : Addr, q.own (envAt env j) a → ¬ Hd a.block ∧ a.block < w.heap.size := by
    intro j q hj hq a ha
    refine ⟨fun hh => ?_, OB.own_lt (h2.sat j q hq) ha⟩
    obtain ⟨i, r, g1, g2, g3⟩ := hHd _ hh
    exact h2.apart j i q _ a (fun e => hj (e ▸ g1)) hq g2 ha g3
  have hW' : WOk C.V0 FR env V' M' w' := by
    refine ⟨p3.os.trans h2.os, p3.tape.trans h2.tape, p3.output.trans h2.output, ?_, h2.le.trans p3.le, p3.holds, ?_, by rw [h2.len, e1], ?_, ?_, ?_, ?_⟩
    · intro b q hq
      have hb : ¬ Hd b := fun hb => by rw [hHdF b hb] at hq; simp at hq
      exact p3.frame b q (by rw [hkeep b hb]; exact h2.frame b q hq)
    · intro a x hx
      rcases p3.fresh a x hx with g | g
      · exact h2.fresh a x g
      · rcases hFR' _ g with g | g
        · exact .inr (hHdF _ g)
        · exact .inr (hFRn _ g)
    · intro j q hq
      rcases e3 j q hq with ⟨p, g1, g2⟩ | ⟨g1, g2⟩
      · obtain ⟨r, _, rfl⟩ := rows_get g2
        exact p3.sat p _ g2
      · refine OB.sat_of rfl (fun _ _ => rfl) (fun x => SV.ok_mono e4) (h2.sat j q g2) fun b hb => ?_
        obtain ⟨n1, n2⟩ := hold j q g1 g2 _ hb
        have hex : w.heap[b]? = some w.heap[b] := by simp [n2]
        rw [hex]
        exact p3.frame b _ (by rw [hkeep b n1]; exact hex)
    · intro j q a hq ha
      rcases e3 j q hq with ⟨p, g1, g2⟩ | ⟨g1, g2⟩
      · obtain ⟨r, _, rfl⟩ := rows_get g2
        exact p3.apartV p _ a g2 ha
      · obtain ⟨n1, n2⟩ := hold j q g1 g2 _ ha
        cases hv : V' a with
        | none => rfl
        | some x =>
          rcases p3.fresh a x hv with g | g
          · rw [h2.apartV j q a g2 ha] at g; simp at g
          · rcases hFR' _ g with g | g
            · exact absurd g n1
            · omega
    · intro j q a hq ha
      rcases e3 j q hq with ⟨p, g1, g2⟩ | ⟨g1, g2⟩
      · obtain ⟨r, _, rfl⟩ := rows_get g2
        rcases hFR' _ (p3.apartF p _ a g2 ha) with g | g
        · exact hHdF _ g
        · exact hFRn _ g
      · exact h2.apartF j q a g2 ha
    · intro j j' q q' a hij hq hq' ha ha'
      rcases e3 j q hq with ⟨p, g1, g2⟩ | ⟨g1, g2⟩
      · obtain ⟨r, _, rfl⟩ := rows_get g2
        rcases e3 j' q' hq' with ⟨p', g3, g4⟩ | ⟨g3, g4⟩
        · obtain ⟨r', _, rfl⟩ := rows_get g4
          exact p3.apart p p' _ _ a (fun e => hij (by subst e; rw [g1] at g3; simpa using g3)) g2 g4 ha ha'
        · obtain ⟨n1, n2⟩ := hold j' q' g3 g4 _ ha'
          rcases hFR' _ (p3.apartF p _ a g2 ha) with g | g
          · exact n1 g
          · omega
      · obtain ⟨n1, n2⟩ := hold j q g1 g2 _ ha
        rcases e3 j' q' hq' with ⟨p', g3, g4⟩ | ⟨g3, g4⟩
        · obtain ⟨r', _, rfl⟩ := rows_get g4
          rcases hFR' _ (p3.apartF p' _ a g4 ha') with g | g
          · exact n1 g
          · omega
        · exact h2.apart j j' q q' a hij g2 g4 ha ha'
  simp only [Act.put, hd]
  exact hE.to FR DF env (t.setIfInBounds d v) w' (by simpa using h1) hW' ((h3.alive e4).put (x := .v v) hdt trivial) ((h4.alive e4).put hdt hf (fun _ => rfl) (fun hn => absurd trivial hn) rfl (.inl rfl) (fun _ => trivial))
    (DOk.grow (M := M') ⟨[], by simp⟩ p3.le ⟨[], by simp⟩ (DOk.writeAll hM' hk h5.same))

/-! ### A block of the call's own becomes a row -/
def substQ (i b : Nat) : SV → SV
  | .ptr j o => match Nat.beq j i with
    | true => .v (.pointer (some ⟨b, o, none⟩))
    | false => .ptr j o
  | .slc j o n c => match Nat.beq j i with
    | true => .v (.slice (some ⟨b, o, none⟩) n c)
    | false => .slc j o n c
  | x => x
def substL (i b : Nat) : Fr → Fr
  | [] => []
  | (s, x) :: L => (s, substQ i b x) :: substL i b L
def substE (i b : Nat) : List REnt → List REnt
  | [] => []
  | ⟨s, c, x, r⟩ :: L => ⟨s, c, substQ i b x, r⟩ :: substE i b L
theorem substQ_den {i b : Nat} {env : List Nat} (hb : envAt env i = b) (x : SV) : den env (substQ i b x) = den env x ∧ ∀ M : List OB, x.ok M → (substQ i b x).ok M := by
  cases x with
  | v _ => exact ⟨rfl, fun _ h => h⟩
  | el _ _ => exact ⟨rfl, fun _ h => h⟩
  | ptr j o =>
    simp only [substQ]
    split
    · rename_i hj
      have := beq_nat hj
      subst this
      exact ⟨by simp [den, hb], fun _ _ => trivial⟩
    · exact ⟨rfl, fun _ h => h⟩
  | slc j o n c =>
    simp only [substQ]
    split
    · rename_i hj
      have := beq_nat hj
      subst this
      exact ⟨by simp [den, hb], fun _ _ => trivial⟩
    · exact ⟨rfl, fun _ h => h⟩
theorem substL_look {i b : Nat} : ∀ {L : Fr} {s : Nat} {x : SV}, lookL (substL i b L) s = some x → ∃ y, lookL L s = some y ∧ x = substQ i b y
  | [], s, x, h => by simp [substL, lookL] at h
  | (d, y) :: L, s, x, h => by
    simp only [substL, lookL_cons] at h ⊢
    split at h
    · rename_i hd
      simp only [Option.some.injEq] at h
      rw [if_pos hd]
      exact ⟨y, rfl, h.symm⟩
    · rename_i hd
      rw [if_neg hd]
      exact substL_look h
theorem substE_look {i b : Nat} : ∀ {lr : List REnt} {s : Nat} {e : REnt}, lookR (substE i b lr) s = some e → ∃ e', lookR lr s = some e' ∧ e'.c = e.c ∧ e'.r = e.r ∧ e.x = substQ i b e'.x
  | [], s, e, h => by simp [substE, lookR] at h
  | ⟨d, c, y, r⟩ :: lr, s, e, h => by
    simp only [substE, lookR_cons] at h ⊢
    split at h
    · rename_i hd
      simp only [Option.some.injEq] at h
      subst h
      rw [if_pos hd]
      exact ⟨_, rfl, rfl, rfl, rfl⟩
    · rename_i hd
      rw [if_neg hd]
      exact substE_look h
theorem Exec.fixR {C : Ctx} (i : Nat) {n sz ty : Nat} {cs : List Value} {rest all : List Oper} {lr : List REnt} {k : List Kt} {L : Fr} {M : List OB} {V : View} {M' : Nat → List OB} {L' : Nat → Fr} {lr' : Nat → List REnt} {sv : List SV}
    (hk : wrOk i k = true) (hi : nth M i = some (.blk sv ty)) (hv : vals sv = some cs) (hl : Nat.beq cs.length (n * sz) = true) (hn : Nat.ble n 1000000 = true) (hs : ∀ b, setN M i (.row (.slice (some ⟨b, 0, none⟩) n n) cs ty sz) = some (M' b))
    (hL : ∀ b, substL i b L = L' b) (hR : ∀ b, substE i b lr = lr' b)
    (h : ∀ b, Exec C ⟨.ops rest all (lr' b) :: k, L' b, M' b⟩ V) : Exec C ⟨.ops rest all lr :: k, L, M⟩ V := by
  refine Exec.of fun FR DF env t w h1 h2 h3 h4 h5 => ?_
  rw [nth_eq] at hi
  have hsat := (h2.sat i _ hi).1
  rw [vals_sound (env := env) hv] at hsat
  have hl := beq_nat hl
  have hn : n ≤ maxLen := Nat.le_trans (Nat.le_of_ble_eq_true hn) (by simp [maxLen])
  have hrow : rowSat w ty sz (.slice (some ⟨envAt env i, 0, none⟩) n n) cs := ⟨n, hl, .inr ⟨_, n, _, rfl, Nat.zero_le _, hsat, Nat.le_refl _, hn, by simp [hl], by simp [← hl]⟩⟩
  have hW := h2.upd (w' := w) (o' := .row (.slice (some ⟨envAt env i, 0, none⟩) n n) cs ty sz) hi (by simp) rfl rfl rfl (fun _ _ _ => rfl) hrow (fun a ha => .inl (by
    simp only [OB.own, Value.ownBlock, Option.some.injEq] at ha ⊢
    exact ha.symm))
  obtain ⟨_, hM'⟩ := setN_sound (hs (envAt env i))
  have hal : ∀ q, alive M q → alive (M' (envAt env i)) q := fun q hq => by rw [hM']; exact alive_set (by simp) hq
  refine (h (envAt env i)).to FR DF env t w h1 (by rw [hM']; exact hW) (fun s x hx => ?_) (fun s e he => ?_) (by
    show DOk DF env V (M' (envAt env i)) _
    rw [hM']
    exact DOk.write hk h5.same)
  · rw [← hL] at hx
    obtain ⟨y, k1, rfl⟩ := substL_look hx
    obtain ⟨k4, k5⟩ := h3 s y k1
    obtain ⟨q1, q2⟩ := substQ_den (env := env) (i := i) rfl y
    exact ⟨by rw [k4, q1], SV.ok_mono hal (q2 M k5)⟩
  · have he : lookR (lr' (envAt env i)) s = some e := he
    rw [← hR] at he
    obtain ⟨e', k1, k2, k3, k4⟩ := substE_look he
    have hh4 : ROk env M lr t := h4
    obtain ⟨g1, g2, g3⟩ := hh4 s e' k1
    obtain ⟨q1, q2⟩ := substQ_den (env := env) (i := i) rfl e'.x
    rw [k2] at g1 g2
    rw [k3] at g3
    exact ⟨fun hc => ⟨by rw [(g1 hc).1, k4, q1], by rw [k4]; exact SV.ok_mono hal (q2 M (g1 hc).2)⟩, g2, g3⟩
end Go.Proofs.YtonijgmopcmldaaGreat

set_option linter.all false
namespace Go.Proofs.YtonijgmopcmldaaGreat
section
variable {C : Ctx}
theorem Exec.memS {σ : Type} (x : σ → SV) (M' : σ → List OB) {o : Oper} {rest all : List Oper} {lr : List REnt} {k : List Kt} {L : Fr} {M : List OB} {V : View} {d : Nat} (hh : headOf C.nt all lr L o = some ([], d))
    (hy : ∀ FR env t w, WOk C.V0 FR env V M w → LOk env M L t → ROk env M lr t → ∃ q env' w', (∃ r, env' = env ++ r) ∧ WOk C.V0 FR env' V (M' q) w' ∧ (∀ L, LOk env M L t → LOk env' (M' q) L t) ∧
      (∀ lr, ROk env M lr t → ROk env' (M' q) lr t) ∧ (x q).ok (M' q) ∧ (execOp (⟨t, []⟩ : Act).eval o).run C.P w = .ok (.value (den env' (x q))) w')
    (hD : ∀ q, (∃ r, M' q = M ++ r) ∨ ∃ i b, M' q = M.set i b ∧ wrOk i k = true)
    (h : ∀ q, Exec C ⟨.ops rest all (⟨d, [], x q, d⟩ :: lr) :: k, (d, x q) :: L, M' q⟩ V) : Exec C ⟨.ops (o :: rest) all lr :: k, L, M⟩ V := by
  refine Exec.of fun FR DF env t w h1 h2 h3 h4 h5 => ?_
  obtain ⟨hg, hd, hn, hf, _⟩ := headOf_some hh
  have hdt : d < t.size := by rw [h1]; simpa [Nat.blt_eq] using hn
  obtain ⟨q, env', w', j1, k1, k2, k3, k4, k5⟩ := hy FR env t w h2 h3 h4
  have hw := guard_sound h4 hg
  show wpList C.P ⟨all⟩ (post C FR DF k) (o :: rest) ⟨t, []⟩ w
  refine wpList_want ?_
  rw [if_pos (hw.2 trivial)]
  refine wp_value k5 ?_
  simp only [Act.put, hd]
  refine (h q).to FR DF env' (t.setIfInBounds d (den env' (x q))) w' (by simpa using h1) k1 ((k2 _ h3).put hdt k4)
    ((k3 _ h4).put hdt hf (fun _ => rfl) (fun hn => absurd trivial hn) rfl (.inl rfl) (fun _ => k4)) ?_
  show DOk DF env' V (M' q) _
  rcases hD q with hD | ⟨i, b, hm, hk⟩
  · exact DOk.grow j1 (VLe.refl V) hD h5.same
  · rw [hm]; exact DOk.grow (M := M.set i b) j1 (VLe.refl V) ⟨[], by simp⟩ (DOk.write (M := M) hk h5.same)
theorem Exec.rowS {σ : Type} (i : Nat) (v : σ → Value) (b : σ → OB) (M' : σ → List OB) {o : Oper} {rest all : List Oper} {lr : List REnt} {k : List Kt} {L : Fr} {M : List OB} {V : View} {d : Nat} (hh : headOf C.nt all lr L o = some ([], d))
    (hb : ∀ q, b q ≠ .gone) (hs : ∀ q, setN M i (b q) = some (M' q)) (hk : wrOk i k = true)
    (hy : ∀ FR env t w, WOk C.V0 FR env V M w → LOk env M L t → ROk env M lr t → ∃ q w', WOk C.V0 FR env V (M.set i (b q)) w' ∧ (execOp (⟨t, []⟩ : Act).eval o).run C.P w = .ok (.value (v q)) w')
    (h : ∀ q, Exec C ⟨.ops rest all (⟨d, [], .v (v q), d⟩ :: lr) :: k, (d, .v (v q)) :: L, M' q⟩ V) : Exec C ⟨.ops (o :: rest) all lr :: k, L, M⟩ V := by
  refine Exec.memS (fun q => .v (v q)) M' hh (fun FR env t w h2 h3 h4 => ?_) (fun q => .inr ⟨i, b q, (setN_sound (hs q)).2, hk⟩) h
  obtain ⟨q, w', g1, g2⟩ := hy FR env t w h2 h3 h4
  have hM' := (setN_sound (hs q)).2
  have hal : ∀ j, alive M j → alive (M' q) j := fun j hj => by rw [hM']; exact alive_set (hb q) hj
  exact ⟨q, env, w', ⟨[], by simp⟩, by rw [hM']; exact g1, fun L hL => hL.alive hal, fun lr hl => hl.alive hal, trivial, g2⟩
theorem rowSat_cur {w : World} {e sz b n c : Nat} {cs : List Value} (h : rowSat w e sz (.slice (some ⟨b, 0, none⟩) n c) cs) :
    ∃ cur, w.heap[b]? = some (.cells cur e (0, 0)) ∧ n ≤ c ∧ c ≤ maxLen ∧ cur.size = c * sz ∧ cs.length = n * sz ∧ cur.toList.take (n * sz) = cs := by
  obtain ⟨r1, r2, r3, r4⟩ := rowSat_some h
  rcases r4.2 with ⟨hv, _⟩ | ⟨g, cap, cur, hv, k1, k2, k3, k4, k5, k6⟩
  · simp at hv
  simp only [Value.slice.injEq, Option.some.injEq, Addr.mk.injEq, true_and, and_true] at hv
  obtain ⟨rfl, rfl⟩ := hv
  exact ⟨cur, k2, k3, k4, k5, r1, k6⟩
theorem rowSat_mk {w : World} {e sz b n c : Nat} {cs : List Value} {cur : Array Value} (h1 : w.heap[b]? = some (.cells cur e (0, 0))) (h2 : n ≤ c) (h3 : c ≤ maxLen) (h4 : cur.size = c * sz) (h5 : cs.length = n * sz) (h6 : cur.toList.take (n * sz) = cs) :
    rowSat w e sz (.slice (some ⟨b, 0, none⟩) n c) cs := ⟨n, h5, .inr ⟨b, c, cur, rfl, Nat.zero_le _, h1, h2, h3, h4, h6⟩⟩
theorem put_take {cur cs nv : List Value} {m off : Nat} (hc : cur.take m = cs) (hm : cs.length = m) (hoff : off + nv.length ≤ m) (hl : m ≤ cur.length) :
    (cur.take off ++ nv ++ cur.drop (off + nv.length)).take m = cs.take off ++ nv ++ cs.drop (off + nv.length) := by
  subst hc
  rw [List.take_append, List.take_append, List.take_take, List.take_take]
  simp only [List.length_append, List.length_take]
  rw [Nat.min_eq_left (by omega : off ≤ m), Nat.min_eq_right (by omega : off ≤ m), List.drop_take, List.take_of_length_le (by omega : nv.length ≤ _)]
  congr 2
  rw [Nat.min_eq_left (by omega)]
theorem rowSat_put {w : World} {e sz b n c off : Nat} {cs nv : List Value} (h : rowSat w e sz (.slice (some ⟨b, 0, none⟩) n c) cs) (hoff : off + nv.length ≤ cs.length) :
    ∃ cur, w.heap[b]? = some (.cells cur e (0, 0)) ∧ off + nv.length ≤ cur.size ∧
      rowSat (w.setRow b (cur.toList.take off ++ nv ++ cur.toList.drop (off + nv.length)).toArray) e sz (.slice (some ⟨b, 0, none⟩) n c) (cs.take off ++ nv ++ cs.drop (off + nv.length)) := by
  obtain ⟨cur, k2, k3, k4, k5, r1, k6⟩ := rowSat_cur h
  have hcl : cs.length ≤ cur.size := by rw [r1, k5]; exact Nat.mul_le_mul_right _ k3
  refine ⟨cur, k2, by omega, rowSat_mk (setRow_heap w b cur _ e _ k2) k3 k4 ?_ ?_ ?_⟩
  · simp only [List.size_toArray, List.length_append, List.length_take, List.length_drop, Array.length_toList]; omega
  · simp only [List.length_append, List.length_take, List.length_drop]; omega
  · simp only
    exact put_take (m := n * sz) k6 r1 (by omega) (by rw [← r1]; simpa using hcl)
end

/-! ### Where the cells that are read stand -/
inductive Src (M : List OB) (V : View) : Option Addr → List Value → Prop where
  | nil (a : Option Addr) : Src M V a []
  | open_ {a : Option Addr} {l : List Value} (h : RdAt V a 0 l) : Src M V a l
  | row {g off : Nat} {l : List Value} (j : Nat) {n c : Nat} {cs : List Value} {e sz : Nat} (h : nth M j = some (.row (.slice (some ⟨g, 0, none⟩) n c) cs e sz)) (hl : CellsAt cs off l) : Src M V (some ⟨g, off, none⟩) l
theorem Src.cells {M : List OB} {V V0 : View} {FR : Frm} {env : List Nat} {w : World} (h2 : WOk V0 FR env V M w) {a : Option Addr} {l : List Value} (h : Src M V a l) : l = [] ∨ ∃ ad, a = some ad ∧ ∀ j u, l[j]? = some u → w.cell? (ad.add j) = some u := by
  cases h with
  | nil a => exact .inl rfl
  | open_ h =>
    obtain ⟨b, o, rfl, hc⟩ := h
    exact .inr ⟨_, rfl, fun j u hu => by rw [Addr.add_lit]; simpa using h2.holds _ _ (hc j u hu)⟩
  | row j h hl =>
    rw [nth_eq] at h
    exact .inr ⟨_, rfl, fun j u hu => by rw [Addr.add_lit]; simpa using rowSat_cell (h2.sat _ _ h) rfl hl j u hu⟩
theorem run_copyK {P : Program} (w : World) (dT sT ty elem sz : Nat) (g o dLen dCap : Nat) (a : Option Addr) (sLen sCap : Nat) (cur : Array Value) (t : TypeId) (cs : List Value)
    (hu : P.underlying dT = some (.slice elem)) (hs : ∃ i, P.info? elem = some i ∧ i.size = sz)
    (hg : w.heap[g]? = some (.cells cur t (0, 0))) (hn : cs.length = Nat.min sLen dLen * sz)
    (hsrc : cs = [] ∨ ∃ ad, a = some ad ∧ ∀ j u, cs[j]? = some u → w.cell? (ad.add j) = some u) (hfit : o + cs.length ≤ cur.size) (h1 : ∀ v ∈ cs, v.oneCell' = true) :
    (Builtin.copy_ #[dT, sT] ty #[.slice (some ⟨g, o, none⟩) dLen dCap, .slice a sLen sCap]).run P w =
      .ok (goInt (Nat.min sLen dLen)) (w.setRow g (cur.toList.take o ++ cs ++ cur.toList.drop (o + cs.length)).toArray) := by
  have hst := run_storeCells_at P g o t cs 0 cur w hg (by simpa using hfit) h1
  obtain ⟨i, hq, hi⟩ := hs
  have hf : (Builtin.firstCells sz (Nat.min sLen dLen) (.slice a sLen sCap)).run P w = .ok cs.toArray w := by
    rcases hsrc with h0 | ⟨ad, rfl, hc⟩
    · have hz : Nat.min sLen dLen * sz = 0 := by rw [← hn, h0]; rfl
      subst h0
      cases a with
      | none => exact run_firstCells_none w sz _ sLen sCap
      | some ad => exact run_firstCells_some w sz _ ad sLen sCap [] (by simpa using hz.symm) (by simp)
    · exact run_firstCells_some w sz _ ad sLen sCap cs hn hc
  simp only [Nat.add_zero] at hst
  simp [Builtin.copy_, run_underlying hu, Builtin.lenOf, sizeOf, typeInfo, hq, hi, hf, hst]
section
variable {C : Ctx} (hT : TOk C.P C.T) {o : Oper} {rest all : List Oper} {lr : List REnt} {k : List Kt} {L : Fr} {M : List OB} {V : View} {d : Nat}
def slAd (a : Option Addr) (c lo sz : Nat) : Option Addr := if c = lo then a else a.map (·.add (lo * sz))
end
end Go.Proofs.YtonijgmopcmldaaGreat

set_option linter.all false
namespace Go.Proofs.YtonijgmopcmldaaGreat
def cpTy (T : List TyD) (op : Op) : Option (Operand × Operand × Nat × Nat × Nat × Nat) :=
  match op with
  | .call ⟨.builtin .copy, ⟨[sa, sb]⟩, ⟨[t, t']⟩⟩ => match sliceTy T t with
    | some (e, sz, _, _) => some (sa, sb, t, t', e, sz)
    | none => none
  | _ => none
theorem cpTy_op {T : List TyD} {op : Op} {sa sb : Operand} {t t' e sz : Nat} (h : cpTy T op = some (sa, sb, t, t', e, sz)) :
    op = .call ⟨.builtin .copy, #[sa, sb], #[t, t']⟩ ∧ ∃ bys zs, sliceTy T t = some (e, sz, bys, zs) := by
  unfold cpTy at h
  split at h <;> try (simp at h; done)
  split at h <;> try (simp at h; done)
  rename_i e' sz' bys zs ht
  simp only [Option.some.injEq, Prod.mk.injEq] at h
  obtain ⟨rfl, rfl, rfl, rfl, rfl, rfl⟩ := h
  exact ⟨rfl, bys, zs, ht⟩
section
variable {C : Ctx} (hT : TOk C.P C.T) {o : Oper} {rest all : List Oper} {lr : List REnt} {k : List Kt} {L : Fr} {M : List OB} {V : View} {d : Nat}
include hT
theorem Exec.slx3 {t : Nat} {x : Operand} {lo : Option Operand} {hi mx : Operand} {e sz bys n cp : Nat} {zs : List Value} {a : Option Addr} {kh km : IntKind} {p : Option Int} {hh' m : Int} (hh : headOf C.nt all lr L o = some ([], d)) (hop : o.op = .slice t x lo (some hi) (some mx)) (ht : sliceTy C.T t = some (e, sz, bys, zs))
    (hx : ev (opd L lr) [] x = some (.v (.slice a n cp))) (hl : bdOf (opd L lr) [] lo = some p) (hhi : ev (opd L lr) [] hi = some (.v (.int kh hh'))) (hm : ev (opd L lr) [] mx = some (.v (.int km m)))
    (hb : 0 ≤ loN p ∧ loN p ≤ hh' ∧ hh' ≤ m ∧ m ≤ cp) {l' n' c' : Nat} (e1 : (loN p).toNat = l') (e2 : hh'.toNat - l' = n') (e3 : m.toNat - l' = c')
    (h : Exec C ⟨.ops rest all (⟨d, [], .v (.slice (slAd a m.toNat l' sz) n' c'), d⟩ :: lr) :: k, (d, .v (.slice (slAd a m.toNat l' sz) n' c')) :: L, M⟩ V) : Exec C ⟨.ops (o :: rest) all lr :: k, L, M⟩ V := by
  subst e1; subst e2; subst e3
  refine Exec.yieldsP (G := []) (x := .v (.slice (slAd a m.toNat (loN p).toNat sz) (hh'.toNat - (loN p).toNat) (m.toNat - (loN p).toNat))) hh (fun env t0 w h3 h4 _ hG => ⟨trivial, ?_⟩) h
  obtain ⟨u1, u2, u3, u4, ti, z, i1, i2, i3, i4, i5, i6⟩ := sliceTy_sound hT ht
  have g0 := ev_sound (opd_sound h3 h4) (G := []) trivial hx
  have g3 := ev_sound (opd_sound h3 h4) (G := []) trivial hhi
  have g4 := ev_sound (opd_sound h3 h4) (G := []) trivial hm
  obtain ⟨v1, g1, g2⟩ := bdOf_sound (opd_sound h3 h4) (G := []) trivial hl
  simp only [den] at g0 g3 g4
  have hsz : (sizeOf e).run C.P w = .ok sz w := by simp [sizeOf, typeInfo, i1, i3]
  have hel : C.P.elem t = e := by simp [Program.elem, u1]
  have ht' : C.P.underlying t = some (.slice (C.P.elem t)) := by rw [hel]; exact u1
  rw [← hel] at hsz
  unfold execOp
  simp only [hop, g0, den, g1, Option.map_some, g3, g4, Sem.run_bind]
  rw [run_sliceAt_slice (h := ht')]
  obtain ⟨b1, b2, b3, b4⟩ := hb
  rcases g2 with ⟨rfl, rfl⟩ | ⟨i, kk, rfl, rfl⟩ <;> simp only [loN] at b1 b2 b3 b4 ⊢
  · rw [run_slice_hm (ht := ht') (h0 := by omega) (h2 := b3) (h3 := b4)]
    simp [hsz, sliced, slAd]
  · rw [run_slice_lhm (ht := ht') (h0 := b1) (h1 := b2) (h2 := b3) (h3 := b4)]
    simp [hsz, sliced, slAd]
end
end Go.Proofs.YtonijgmopcmldaaGreat

set_option linter.all false
namespace Go.Proofs.YtonijgmopcmldaaGreat
theorem RowRep.take {α : Type} [Inhabited α] {c : Cd α} {V : View} : ∀ {l : List α} {cs : List Value} (i : Nat), RowRep c V l cs → RowRep c V (l.take i) (cs.take (i * c.sz))
  | [], cs, i, h => by rw [show cs = [] from h]; simp; exact rfl
  | x :: l, cs, 0, h => by simp; exact rfl
  | x :: l, cs, i + 1, ⟨e, r, h0, h1, h2⟩ => by
    have he := c.len h1
    refine ⟨e, r.take (i * c.sz), ?_, h1, RowRep.take i h2⟩
    rw [h0, Nat.add_mul, Nat.one_mul, Nat.add_comm, ← he]
    exact List.take_length_add_append _
theorem RowRep.drop {α : Type} [Inhabited α] {c : Cd α} {V : View} : ∀ {l : List α} {cs : List Value} (i : Nat), RowRep c V l cs → RowRep c V (l.drop i) (cs.drop (i * c.sz))
  | [], cs, i, h => by rw [show cs = [] from h]; simp; exact rfl
  | x :: l, cs, 0, h => by simpa using h
  | x :: l, cs, i + 1, ⟨e, r, h0, h1, h2⟩ => by
    have he := c.len h1
    rw [h0, Nat.add_mul, Nat.one_mul, Nat.add_comm (i * c.sz), ← he, List.drop_length_add_append, he]
    exact RowRep.drop i h2
def idN : Nat → Nat → List Nat → Bool
  | _, 0, _ => true
  | _, _ + 1, [] => false
  | i, n + 1, a :: l => match Nat.beq a i with
    | true => idN (i + 1) n l
    | false => false
theorem idN_sound : ∀ {n i : Nat} {l : List Nat}, idN i n l = true → n ≤ l.length ∧ ∀ j, j < n → l[j]? = some (i + j)
  | 0, i, l, _ => ⟨Nat.zero_le _, fun j h => by omega⟩
  | n + 1, i, [], h => by simp [idN] at h
  | n + 1, i, a :: l, h => by
    simp only [idN] at h
    split at h
    · rename_i ha
      obtain ⟨h1, h2⟩ := idN_sound h
      refine ⟨by simp; omega, fun j hj => ?_⟩
      cases j with
      | zero => simp [beq_nat ha]
      | succ j => simp only [List.getElem?_cons_succ, h2 j (by omega)]; congr 1; omega
    · simp at h
def SubE (p : List Nat) : List REnt → List REnt → Prop
  | [], _ => True
  | e :: l', l => (e.c = [] ∧ e.r = e.s ∧ ∃ y r, selSV p e.x = some y ∧ lookR l e.s = some ⟨e.s, [], y, r⟩) ∧ SubE p l' l
theorem SubE.look {p : List Nat} {l : List REnt} : ∀ {l' : List REnt}, SubE p l' l → ∀ s e, lookR l' s = some e → e.s = s ∧ e.c = [] ∧ e.r = s ∧ ∃ y r, selSV p e.x = some y ∧ lookR l s = some ⟨s, [], y, r⟩
  | [], _, s, e, h => by simp [lookR] at h
  | a :: l', hs, s, e, h => by
    rw [lookR_cons] at h
    split at h
    · rename_i hn
      simp only [Option.some.injEq] at h
      subst h; subst hn
      obtain ⟨⟨h1, h2, y, r, h3, h4⟩, _⟩ := hs
      exact ⟨rfl, h1, h2, y, r, h3, h4⟩
    · exact SubE.look hs.2 s e h
theorem sel_val {p : List Nat} {M M' : List OB} {env : List Nat} (henv : ∀ (j i : Nat), p[j]? = some i → envAt (p.map (envAt env)) j = envAt env i) (hal : ∀ (j i : Nat), p[j]? = some i → alive M i → alive M' j) :
    ∀ {x y : SV}, selSV p x = some y → den env y = den (p.map (envAt env)) x ∧ (y.ok M → x.ok M') := by
  intro x y g1
  cases x with
  | v _ => simp only [selSV, Option.some.injEq] at g1; subst g1; exact ⟨rfl, fun _ => trivial⟩
  | el _ _ => simp only [selSV, Option.some.injEq] at g1; subst g1; exact ⟨rfl, fun h => h⟩
  | ptr j o =>
    simp only [selSV] at g1
    split at g1
    · rename_i i hi
      simp only [Option.some.injEq] at g1; subst g1
      rw [nth_eq] at hi
      exact ⟨by simp only [den, henv j i hi], hal j i hi⟩
    · simp at g1
  | slc j o l c =>
    simp only [selSV] at g1
    split at g1
    · rename_i i hi
      simp only [Option.some.injEq] at g1; subst g1
      rw [nth_eq] at hi
      exact ⟨by simp only [den, henv j i hi], hal j i hi⟩
    · simp at g1
theorem Exec.selD {C : Ctx} (p : List Nat) {all : List Oper} {listed : List Bool} {n : Nat} {ends : List Nat} {n0 : Nat} {mask : List Nat} {V1 : View} {q : List (Nat × Bool)} {lr lr' : List REnt} {L' : Fr} {k : List Kt} {L : Fr} {M M' : List OB} {V : View}
    (hq : planOk all ends n listed q = true) (hM : pickMem M p = some M') (hd : nodupN p = true) (hid : idN 0 n0 p = true) (hrow : rowsOnly M' = true) (hs : SubS p L' L) (he : SubE p lr' lr)
    (h : Exec C ⟨.draw ⟨all, listed, n, ends, n0, mask, V1, q, lr'⟩ :: k, L', M'⟩ V) : Exec C ⟨.draw ⟨all, listed, n, ends, n0, mask, V1, [], lr⟩ :: k, L, M⟩ V := by
  refine Exec.of fun FR DF env t w h1 h2 h3 h4 h5 => ?_
  have h4 : ROk env M lr t := h4
  have h5 : DOk0 DF ⟨all, listed, n, ends, n0, mask, V1, [], lr⟩ env V M := h5
  obtain ⟨hlen, hget⟩ := pickMem_sound hM
  obtain ⟨hid1, hid2⟩ := idN_sound hid
  have henv : ∀ (j i : Nat), p[j]? = some i → envAt (p.map (envAt env)) j = envAt env i := fun j i hj => by simp [envAt, hj]
  have hW : WOk C.V0 FR (p.map (envAt env)) V M' w := by
    refine ⟨h2.os, h2.tape, h2.output, h2.frame, h2.le, h2.holds, h2.fresh, by simp [hlen], ?_, ?_, ?_, ?_⟩
    · intro j o ho
      obtain ⟨i, g1, g2⟩ := hget j o ho
      have := h2.sat i o g2
      rw [henv j i g1]
      rcases rowsOnly_get hrow ho with ⟨x, cs, e, sz, rfl⟩ | ⟨cs, ty, rfl, hv⟩
      · exact this
      · refine ⟨?_, allV_ok hv⟩
        rw [this.1]
        congr 3
        refine List.map_congr_left fun y hy => ?_
        cases y with
        | v _ => rfl
        | _ => exact absurd (allV_mem hv _ hy) (by simp)
    · intro j o a ho ha
      obtain ⟨i, g1, g2⟩ := hget j o ho
      rw [henv j i g1] at ha
      exact h2.apartV i o a g2 ha
    · intro j o a ho ha
      obtain ⟨i, g1, g2⟩ := hget j o ho
      rw [henv j i g1] at ha
      exact h2.apartF i o a g2 ha
    · intro j j' o q a hij ho hq ha ha'
      obtain ⟨i, g1, g2⟩ := hget j o ho
      obtain ⟨i', g3, g4⟩ := hget j' q hq
      rw [henv j i g1] at ha
      rw [henv j' i' g3] at ha'
      exact h2.apart i i' o q a (fun e => hij (nodupN_inj hd g1 (e ▸ g3))) g2 g4 ha ha'
  have hal : ∀ (j i : Nat), p[j]? = some i → alive M i → alive M' j := by
    intro j i hj ⟨o, g1, g2⟩
    have hjl : j < M'.length := by rw [hlen]; exact (List.getElem?_eq_some_iff.1 hj).1
    obtain ⟨i', g3, g4⟩ := hget j M'[j] (by simp [hjl])
    rw [hj] at g3
    simp only [Option.some.injEq] at g3
    subst g3
    rw [g1] at g4
    simp only [Option.some.injEq] at g4
    exact ⟨o, by rw [g4]; simp [hjl], g2⟩
  have hpre : M'.take n0 = M.take n0 := by
    apply List.ext_getElem?
    intro j
    rw [List.getElem?_take, List.getElem?_take]
    split
    · rename_i hj
      have hp := hid2 j hj
      rw [Nat.zero_add] at hp
      have hjl : j < M'.length := by rw [hlen]; omega
      obtain ⟨i, g1, g2⟩ := hget j M'[j] (by simp [hjl])
      rw [hp] at g1
      simp only [Option.some.injEq] at g1
      subst g1
      rw [g2]; simp [hjl]
    · rfl
  have hn0 : n0 ≤ M.length := h5.lenM
  have hn0' : n0 ≤ M'.length := by rw [hlen]; exact hid1
  have hrd : rdM mask 0 n0 M' = rdM mask 0 n0 M := by
    have e1 : M' = M'.take n0 ++ M'.drop n0 := (List.take_append_drop _ _).symm
    have e2 : M = M.take n0 ++ M.drop n0 := (List.take_append_drop _ _).symm
    rw [e1, e2, rdM_app _ _ _ _ _ (by simp; omega), rdM_app _ _ _ _ _ (by simp; omega), hpre]
  have hD : DOk0 DF ⟨all, listed, n, ends, n0, mask, V1, q, lr'⟩ (p.map (envAt env)) V M' := by
    obtain ⟨r, hr⟩ := h5.pre
    have hl : DF.env.length = n0 := h5.len
    refine ⟨⟨(p.map (envAt env)).drop n0, ?_⟩, h5.len, hn0', h5.v, h5.vle, h5.ok, fun hn => ?_, hq⟩
    · have : DF.env = (p.map (envAt env)).take n0 := by
        apply List.ext_getElem?
        intro j
        rw [List.getElem?_take]
        split
        · rename_i hj
          have hp := hid2 j hj
          rw [Nat.zero_add] at hp
          rw [List.getElem?_map, hp, Option.map_some, envAt, hr, List.getElem?_append, if_pos (by omega)]
          rw [List.getElem?_eq_getElem (by omega)]
          rfl
        · rename_i hj
          rw [List.getElem?_eq_none (by omega)]
      rw [this]
      exact (List.take_append_drop _ _).symm
    · show DF.M = rdM mask 0 n0 M'
      rw [hrd]
      exact h5.mem hn
  refine h.to FR DF (p.map (envAt env)) t w h1 hW (fun s x hx => ?_) (fun s e hx => ?_) hD
  · obtain ⟨y, g1, g2⟩ := hs.look s x hx
    obtain ⟨k1, k2⟩ := h3 s y g2
    obtain ⟨q1, q2⟩ := sel_val (M := M) (M' := M') henv hal g1
    exact ⟨by rw [k1, q1], q2 k2⟩
  · have hx : lookR lr' s = some e := hx
    obtain ⟨g0, g1, g2, y, r, g3, g4⟩ := he.look s e hx
    obtain ⟨k1, _, _⟩ := h4 s _ g4
    obtain ⟨k2, k3⟩ := k1 trivial
    obtain ⟨q1, q2⟩ := sel_val (M := M) (M' := M') henv hal g3
    simp only at k2 k3
    refine ⟨fun _ => ⟨by rw [k2, q1], q2 k3⟩, fun hc => absurd (by rw [g1]; trivial) hc, by rw [g2]⟩
theorem Exec.fork {C : Ctx} (i j : Nat) (pA pB q : List (Nat × Bool)) (I : List REnt → Fr → View → List OB → Prop) (m : Nat) {all : List Oper} {listed : List Bool} (L2 : List Bool) {ends : List Nat} {n0 : Nat} {mask : List Nat} {V1 : View} {lr : List REnt} {n n' : Nat} {oi oj : Oper} {k : List Kt} {L : Fr} {M : List OB} {V : View}
    (hn : n' = n + 1) (hr : rdy listed 0 all = [i, j]) (hi : nth all i = some oi) (hj : nth all j = some oj) (hs : sameL all listed = true)
    (h1 : planOk all ends n (setT listed i) pA = true) (h2 : planOk all ends n (setT listed j) pB = true) (hq : planOk all ends m L2 q = true)
    (hA : (∀ (p : List Nat) {lr0 lr' : List REnt} {L0 L' : Fr} {M0 M' : List OB} {V' : View}, pickMem M0 p = some M' → nodupN p = true → idN 0 n0 p = true → rowsOnly M' = true → SubS p L' L0 → SubE p lr' lr0 → I lr' L' V' M' → Exec C ⟨.draw ⟨all, L2, m, ends, n0, mask, V1, [], lr0⟩ :: k, L0, M0⟩ V') →
      Exec C ⟨.ops [oi] all lr :: .draw ⟨all, setT listed i, n, ends, n0, mask, V1, pA, lr⟩ :: k, L, M⟩ V)
    (hB : (∀ (p : List Nat) {lr0 lr' : List REnt} {L0 L' : Fr} {M0 M' : List OB} {V' : View}, pickMem M0 p = some M' → nodupN p = true → idN 0 n0 p = true → rowsOnly M' = true → SubS p L' L0 → SubE p lr' lr0 → I lr' L' V' M' → Exec C ⟨.draw ⟨all, L2, m, ends, n0, mask, V1, [], lr0⟩ :: k, L0, M0⟩ V') →
      Exec C ⟨.ops [oj] all lr :: .draw ⟨all, setT listed j, n, ends, n0, mask, V1, pB, lr⟩ :: k, L, M⟩ V)
    (h : ∀ lr' L' V' M', I lr' L' V' M' → Exec C ⟨.draw ⟨all, L2, m, ends, n0, mask, V1, q, lr'⟩ :: k, L', M'⟩ V') : Exec C ⟨.draw ⟨all, listed, n', ends, n0, mask, V1, [], lr⟩ :: k, L, M⟩ V :=
  Exec.pick2 (i := i) (j := j) pA pB hn hr hi hj hs h1 h2
    (hA fun p _ _ _ _ _ _ _ g1 g2 g3 g4 g5 g6 g7 => Exec.selD p hq g1 g2 g3 g4 g5 g6 (h _ _ _ _ g7))
    (hB fun p _ _ _ _ _ _ _ g1 g2 g3 g4 g5 g6 g7 => Exec.selD p hq g1 g2 g3 g4 g5 g6 (h _ _ _ _ g7))

/-! ### A slice literal behind guards -/
def guardLook (od : Look) (G : List (Nat × Bool)) : Look := fun x =>
  match od x with
  | some (c, v, _) => match subC c G with
    | true => some ([], v, none)
    | false => none
  | none => none
theorem guardLook_tells {env : List Nat} {M : List OB} {t : Array Value} {od : Look} (hO : Tells env M t od) {G : List (Nat × Bool)} (hG : condT t G) : Tells env M t (guardLook od G) := by
  intro x c v r h
  unfold guardLook at h
  split at h
  · rename_i c' v' r' hx
    split at h
    · rename_i hs
      simp only [Option.some.injEq, Prod.mk.injEq] at h
      obtain ⟨rfl, rfl, rfl⟩ := h
      obtain ⟨g1, g2, _⟩ := hO x c' v' r' hx
      have hc := subC_sound t G c' hs hG
      exact ⟨fun _ => g1 hc, fun _ => g2 hc, fun r0 hr => by simp at hr⟩
    · simp at h
  · simp at h
theorem bslOf_form {T : List TyD} {od : Look} {M M' : List OB} {op : Op} {x : SV} {n0 e0 : Nat} {cs0 : List SV} (h : bslOf T od M op = some (x, M', n0, cs0, e0)) : M' = M ++ [.blk cs0 e0] ∧ n0 = M.length := by
  unfold bslOf at h
  repeat' (split at h <;> try (simp at h; done))
  rename_i hsn
  simp only [Option.some.injEq, Prod.mk.injEq] at h
  obtain ⟨h1, h2, h3, h4, h5⟩ := h
  obtain ⟨g1, g2⟩ := snocN_sound hsn
  subst h2; subst h3; subst h4; subst h5
  exact ⟨g1, by omega⟩
theorem Exec.gbsV {C : Ctx} (hT : TOk C.P C.T) {o : Oper} {rest all : List Oper} {lr : List REnt} {k : List Kt} {L : Fr} {M : List OB} {V : View} {d : Nat} {G : List (Nat × Bool)} {n0 e0 len cap : Nat} {M' : List OB} {cs0 : List SV} {vs : List Value} (hh : headOf C.nt all lr L o = some (G, d)) (hc : bslOf C.T (guardLook (opd L lr) G) M o.op = some (.slc n0 0 len cap, M', n0, cs0, e0))
    (hv : vals cs0 = some vs) {M2 : List OB} (hs : setN M' n0 .unk = some M2)
    (h : ∀ V' a, VLe V V' → Imp lr G (RdAt V' (some a) 0 vs) → Exec C ⟨.ops rest all (⟨d, G, .v (.slice (some a) len cap), d⟩ :: lr) :: k, nextL G d (.v (.slice (some a) len cap)) L, M2⟩ V') (hroots : rootsOk lr G = true) : Exec C ⟨.ops (o :: rest) all lr :: k, L, M⟩ V := by
  refine Exec.of fun FR DF env t w h1 h2 h3 h4 h5 => ?_
  obtain ⟨hg, hd, hn, hf, hGL⟩ := headOf_some hh
  have hdt : d < t.size := by rw [h1]; simpa [Nat.blt_eq] using hn
  have hw := guard_sound h4 hg
  obtain ⟨f1, f2⟩ := bslOf_form hc
  obtain ⟨_, hM2⟩ := setN_sound hs
  have hM2' : M2 = M ++ [.unk] := by rw [hM2, f1, f2, List.set_append]; simp
  show wpList C.P ⟨all⟩ (post C FR DF k) (o :: rest) ⟨t, []⟩ w
  refine wpList_want ?_
  have fin : ∀ V' a w' env', VLe V V' → Imp lr G (RdAt V' (some a) 0 vs) → (∃ r, env' = env ++ r) → WOk C.V0 FR env' V' M2 w' → LOk env' M2 L t → ROk env' M2 lr t → ∀ u, ((condT t G → u = .slice (some a) len cap) ∧ (¬ condT t G → u = undef)) →
      post C FR DF (.ops rest all (⟨d, G, .v (.slice (some a) len cap), d⟩ :: lr) :: k) .normal ⟨t.setIfInBounds d u, []⟩ w' := by
    intro V' a w' env' hvv hR he hW' hL' hR' u hu
    refine (h V' a hvv hR).to FR DF env' _ w' (by simpa using h1) hW' ?_ (hR'.put hdt hf hu.1 hu.2 (guard_fresh hg hf) (.inl rfl) (fun _ => trivial)) (DOk.grow he hvv ⟨_, hM2'⟩ h5.same)
    rcases hGL with rfl | ⟨hne, hnone⟩
    · rw [hu.1 trivial]
      exact hL'.put (x := .v (.slice (some a) len cap)) hdt trivial
    · cases G with
      | nil => exact absurd rfl hne
      | cons g G => exact hL'.put_new hnone u
  by_cases hcn : condT t G
  · rw [if_pos (hw.2 hcn)]
    obtain ⟨env', w', p1, p2, p3, p4, p5, p6, p7⟩ := bslOf_sound hT h2 (guardLook_tells (opd_sound h3 h4) hcn) hc
    have hget : M'[n0]? = some (.blk cs0 e0) := by rw [f1, f2]; simp
    obtain ⟨V', v1, v2, hW'⟩ := p3.openBlk hget hv
    rw [← hM2] at hW'
    have hal : ∀ q, alive M' q → alive M2 q := fun q hq => by rw [hM2]; exact alive_set (by simp) hq
    refine wp_value p7 ?_
    simp only [Act.put, hd]
    exact fin V' ⟨envAt env' n0, 0, none⟩ w' env' v1 (Imp.of_true v2) p1 hW' ((p4 _ h3).alive hal) ((p5 _ h4).alive hal) _ ⟨fun _ => rfl, fun hn => absurd hcn hn⟩
  · rw [if_neg (fun hh => hcn (hw.1 hh))]
    have hW' : WOk C.V0 FR (env ++ [0]) V M2 w := by
      rw [hM2']
      exact h2.add 0 rfl rfl rfl (fun _ _ => rfl) ⟨0, World.ownsRow_nil _ _ _ _⟩ (fun a ha => by simp [OB.own, Value.ownBlock] at ha)
    simp only [Act.put, hd]
    exact fin V ⟨0, 0, none⟩ w (env ++ [0]) (VLe.refl V) (Imp.of_false h4 hroots hcn) ⟨_, rfl⟩ hW' (by rw [hM2']; exact h3.mono h2.len _ _) (by rw [hM2']; exact h4.mono h2.len _ _) undef ⟨fun hc => absurd hc hcn, fun _ => rfl⟩
end Go.Proofs.YtonijgmopcmldaaGreat

set_option linter.all false
namespace Go.Proofs.YtonijgmopcmldaaGreat
theorem RowRep.ints {k : IntKind} {V : View} : ∀ {l : List Int} {cs : List Value}, RowRep (cInt k) V l cs → cs = l.map (Value.int k)
  | [], cs, h => h
  | x :: l, cs, ⟨e, r, h0, h1, h2⟩ => by
    subst h0
    rw [show e = [.int k x] from h1, RowRep.ints h2]; rfl
theorem RowRep.ofInts {k : IntKind} {V : View} : ∀ (l : List Int), RowRep (cInt k) V l (l.map (Value.int k))
  | [] => rfl
  | x :: l => ⟨[.int k x], _, rfl, rfl, RowRep.ofInts l⟩
def sortL (l : List Int) : List Int := l.mergeSort fun x y => decide (x ≤ y)
def compactL (l : List Int) : List Int := Go.Lib.compact l
theorem sortI_row {P : Program} {f : Nat} {a : Option Addr} {n c e : Nat} {l : List Int} {cs : List Value} {V : View} (hr : RowRep (cInt .i64) V l cs)
    (hs : ∀ cs', cs' = l.map (Value.int .i64) → SpecM P f [.slice a n c] ⟨.slice a n c, cs', e, 1⟩ V (fun V' v r' => v = .tuple #[] ∧ V' = V ∧ r' = ⟨.slice a n c, (sortL l).map (Value.int .i64), e, 1⟩)) :
    SpecM P f [.slice a n c] ⟨.slice a n c, cs, e, 1⟩ V (fun V' v r' => v = .tuple #[] ∧ V' = V ∧ r' = ⟨.slice a n c, (sortL l).map (Value.int .i64), e, 1⟩) := hs cs hr.ints
theorem compactI_row {P : Program} {f : Nat} {a : Option Addr} {n c e : Nat} {l : List Int} {cs : List Value} {V : View} (hr : RowRep (cInt .i64) V l cs)
    (hs : ∀ cs', cs' = l.map (Value.int .i64) → SpecM P f [.slice a n c] ⟨.slice a n c, cs', e, 1⟩ V (fun V' v r' => v = .slice a (compactL l).length c ∧ V' = V ∧ r' = ⟨.slice a (compactL l).length c, (compactL l).map (Value.int .i64), e, 1⟩)) :
    SpecM P f [.slice a n c] ⟨.slice a n c, cs, e, 1⟩ V (fun V' v r' => v = .slice a (compactL l).length c ∧ V' = V ∧ r' = ⟨.slice a (compactL l).length c, (compactL l).map (Value.int .i64), e, 1⟩) := hs cs hr.ints
end Go.Proofs.YtonijgmopcmldaaGreat

set_option linter.all false
namespace Go.Proofs.YtonijgmopcmldaaGreat
open Go.ChangeShapes Go.WideShapes Go.ChangeAt Go.RowKit
theorem own : ownKnob Tryz.prog.godebug = none := by kernel_rfl
theorem laidOut : laidOutB Tryz.prog = true := by kernel_rfl
theorem trodAll_stays {H : Type} {enc : TypeId × Value → H} {W W' : World} (hb : Below W.heap.size W W') {sp : Nat → Bool} : ∀ {ts : List TypeId} {vs : List Value} {ds : List (DataW H)} {ps : List MemPlace},
    (∀ t ∈ ts, Tryz.prog.readableRec t = true ∧ t < Tryz.prog.types.size) → DataW.TrodAll enc Tryz.prog W 0 (fun _ => true) true ts vs ds ps → (∀ x ∈ ps, x.block < W.heap.size) → (∀ x ∈ ps, sp x.block = true) →
      DataW.TrodAll enc Tryz.prog W' 0 sp true ts vs ds ps
  | [], _, _, _, _, h, _, _ => by
    obtain ⟨rfl, rfl, rfl⟩ := trodAll_nil h
    exact rfl
  | t :: ts, _, _, _, hts, h, hlt, hsp => by
    obtain ⟨v, vs1, d, ds1, a, b, rfl, rfl, rfl, h1, h2⟩ := trodAll_cons h
    obtain ⟨r1, r2⟩ := hts t (by simp)
    exact ⟨a, b, WideElems.Trod_stays laidOut r1 r2 h1 (fun x hx => hb.same (hlt x (by simp [hx]))) (fun x hx => hsp x (by simp [hx])),
      trodAll_stays hb (fun t ht => hts t (by simp [ht])) h2 (fun x hx => hlt x (by simp [hx])) (fun x hx => hsp x (by simp [hx])), rfl⟩
set_option maxRecDepth 20000 in
theorem law_post {H : Type} {enc : TypeId × Value → H} {f : Func} {s : ChangeSpec} {W W' : World} {args : Array Value} {ds gs : List (DataW H)} {before : List MemPlace} (hvars : s.vars = []) (hres : f.resultTypes = #[4])
    (hts : ∀ t ∈ f.params.toList, Tryz.prog.readableRec t = true ∧ t < Tryz.prog.types.size) (hW : DataW.Whole enc Tryz.prog f.params.toList s.vars false W args.toList ds gs before)
    (hfn : s.fn H (ds ++ gs) = { results := [.lit (.bool true)], args := ds }) (hb : Below W.heap.size W W') : s.post enc Tryz.prog f false true false false W args (.bool true) W' := by
  have hlt := hW.lt
  have hW' := hW
  obtain ⟨p, q, hA, hV, hps, hz, hn⟩ := hW
  rw [hvars] at hV
  obtain ⟨rfl, rfl⟩ := trodVars_none hV
  rw [List.append_nil] at hps
  subst hps
  have hr : ∀ (b : Nat) (sp : Nat → Bool) (hd : Bool), DataW.TrodAll enc Tryz.prog W' b sp hd f.resultTypes.toList ((Value.bool true).resultList f.resultTypes.size) (s.fn H (ds ++ [])).results [] := by
    intro b sp hd
    rw [hres, hfn]
    exact trodAll_cons_mk (shut_bool Tryz.underlying4 _) trodAll_mk0
  have ha : ∀ sp : Nat → Bool, (∀ x ∈ before, sp x.block = true) → DataW.TrodAll enc Tryz.prog W' 0 sp true f.params.toList args.toList (s.fn H (ds ++ [])).args before := by
    intro sp hsp
    rw [hfn]
    exact trodAll_stays hb hts hA hlt hsp
  have hvs : ∀ sp : Nat → Bool, DataW.TrodVars enc Tryz.prog W' sp s.vars (s.fn H (ds ++ [])).vars [] := by
    intro sp
    rw [hvars, hfn]
    rfl
  have hold : ∀ x ∈ before, (fun b => decide (b < W.heap.size)) x.block = true := fun x hx => by simpa using hlt x hx
  refine ⟨ds, [], before, [], before, [], hW', hr _ _ _, ha _ hold, hvs _, World.keptBut_mono (fun x hx => ⟨hx, .inr (by simpa using hx)⟩) (hb.frame (· ∈ before)), fun _ => ?_⟩
  refine ⟨?_, _, _, ([] ++ before) ++ [], ⟨[] ++ before, [], trodAll_append (ha _ (fun _ _ => rfl)) (hr _ _ _), hvs _, rfl, ?_, ?_⟩, ?_⟩
  · rw [show f.resultTypes = #[4] from hres]
    intro j t r hj hr'
    match j, hj, hr' with
    | 0, hj, hr' =>
      simp [Value.resultList] at hj hr'
      subst hj; subst hr'
      exact okWide_bool_mk Tryz.underlying4 _
  · intro b off hp
    have hp' : MemPlace.cell b off ∈ before := by simpa using hp
    rw [hb.frozen (p := ⟨b, off, none⟩) (hlt _ hp')]
    exact hz b off (by simpa using hp')
  · intro h
    simp at h
  · intro x hx _
    simpa using hx
end Go.Proofs.YtonijgmopcmldaaGreat

set_option linter.all false
namespace Go.Proofs.YtonijgmopcmldaaGreat
open Go.RowKit Go.Maps Go.Sort Go.Shelf Go.Proofs
def SeqB (P : Program) (g : Nat) (lb : Array Value) (xs : List Int) (w : World) : Prop :=
  ∀ (l : Nat) (J : List Int → World → Prop) (W : World), Below w.heap.size w W → AbidesFrom W.heap.size J →
    (∀ pre x rest W1, xs = pre ++ x :: rest → J pre W1 → Below w.heap.size w W1 → YieldAt Fence.wide 0 P l #[encZ x] W1 fun e W' => e = .returned (.bool true) ∧ J (pre ++ [x]) W' ∧ Below w.heap.size w W') →
    J [] W →
    Calls P g (#[.func (.yield l) #[] #[]] ++ lb) W fun e W' => (∃ v, e = .returned v) ∧ J xs W'
def SeqAt (P : Program) (V : View) (v : Value) (xs : List Int) : Prop :=
  ∃ g lb, v = .func (.func g) #[] lb ∧ (∀ args w, (callFunc g args).run P w = .ok (.enter g args) w) ∧ ∀ w, Holds V w → SeqB P g lb xs w
theorem SeqAt.mono {P : Program} {V V' : View} {v : Value} {xs : List Int} (h : SeqAt P V v xs) (hv : VLe V V') : SeqAt P V' v xs := by
  obtain ⟨g, lb, h1, h2, h3⟩ := h
  exact ⟨g, lb, h1, h2, fun w hw => h3 w (fun a x hx => hw a x (hv a x hx))⟩
variable {P : Program} {ρ : Ren}
end Go.Proofs.YtonijgmopcmldaaGreat

set_option linter.all false
namespace Go.Proofs.YtonijgmopcmldaaGreat
open Go.RowKit Go.Proofs
theorem below_grown {w w' : World} (h : Below w.heap.size w w') : w.grownBy w' none := ⟨h.os, h.tape, h.output, h.size, fun k hk _ => h.block k hk⟩
def frAll (w : World) : Frm := ⟨w.os, w.tape, w.output, fun b => w.heap[b]?⟩
theorem wok_all {V : View} {w : World} (hw : Holds V w) : WOk V (frAll w) [] V [] w :=
  ⟨rfl, rfl, rfl, fun _ _ h => h, VLe.refl V, hw, fun _ _ h => .inl h, rfl, fun i o h => by simp at h, fun i o a h => by simp at h, fun i o a h => by simp at h, fun i j o o' a _ h => by simp at h⟩
theorem wok_below {V V' : View} {w w' : World} {env : List Nat} {M : List OB} (h : WOk V (frAll w) env V' M w') : Below w.heap.size w w' := by
  have hblk : ∀ k, k < w.heap.size → w'.heap[k]? = w.heap[k]? := fun k hk => by
    have : w.heap[k]? = some w.heap[k] := by simp [hk]
    rw [this]
    exact h.frame k _ this
  refine ⟨h.os, h.tape, h.output, ?_, hblk⟩
  rcases Nat.eq_zero_or_pos w.heap.size with h0 | h0
  · omega
  · have := hblk (w.heap.size - 1) (by omega)
    have h1 : w.heap[w.heap.size - 1]? = some w.heap[w.heap.size - 1] := by simp [h0]
    rw [h1] at this
    have := (Array.getElem?_eq_some_iff.1 this).1
    omega
def Behind (nt : Nat) (V : View) (w : World) (I : Fr → View → Prop) (a : Act) (w' : World) : Prop :=
  a.defers = [] ∧ a.tmps.size = nt ∧ ∃ L' V', LOk [] [] L' a.tmps ∧ VLe V V' ∧ Holds V' w' ∧ Below w.heap.size w w' ∧ I L' V'
abbrev noEnd (P : Program) (T : List TyD) (fn : Func) (nt : Nat) (V : View) : Ctx := ⟨P, T, fn, nt, V, fun _ _ _ => False⟩
abbrev endI (I : Fr → View → Prop) : Kt := .inLoop (fun L V M => M = [] ∧ I L V)
theorem endP_no {P : Program} {T : List TyD} {fn : Func} {nt : Nat} {V : View} {FR : Frm} {e : Ending} {w : World} (h : endP (noEnd P T fn nt V) FR e w) : False := by
  obtain ⟨v, env, V', M, _, _, h⟩ := h
  exact h
theorem post_no {P : Program} {T : List TyD} {fn : Func} {nt : Nat} {V : View} {I : Fr → View → Prop} {e : Exit} {a : Act} {w w' : World}
    (h : post (noEnd P T fn nt V) (frAll w) .none [endI I] e a w') : e = .normal ∧ Behind nt V w I a w' := by
  have hb : ∀ (e : Exit), post (noEnd P T fn nt V) (frAll w) .none [] e a w' → False := fun e h => by
    have h : bodyPost P fn (endP (noEnd P T fn nt V) (frAll w)) e a w' := h
    cases e with
    | normal => obtain ⟨_, v, _, h⟩ := h; exact endP_no h
    | ret => obtain ⟨_, v, _, h⟩ := h; exact endP_no h
    | panic c => exact endP_no h.2
    | outgrown => exact endP_no h
    | exit id => exact h
    | goto t => exact h
  cases e with
  | normal =>
    have h : a.defers = [] ∧ a.tmps.size = nt ∧ ∃ env L V' M, WOk V (frAll w) env V' M w' ∧ LOk env M L a.tmps ∧ (M = [] ∧ I L V') := h
    obtain ⟨h1, h2, env, L, V', M, h3, h4, rfl, h5⟩ := h
    have he : env = [] := List.eq_nil_of_length_eq_zero (by simpa using h3.len)
    subst he
    exact ⟨rfl, h1, h2, L, V', h4, h3.le, h3.holds, wok_below h3, h5⟩
  | ret => exact (hb .ret h).elim
  | panic c => exact (hb (.panic c) h).elim
  | outgrown => exact (hb .outgrown h).elim
  | exit id => exact (hb (.exit id) h).elim
  | goto t => exact (hb (.goto t) h).elim
theorem Exec.stretch {P : Program} {T : List TyD} {fn : Func} {nt : Nat} {V : View} {c : Code} {L : Fr} {I : Fr → View → Prop}
    (h : Exec (noEnd P T fn nt V) ⟨[.code c, endI I], L, []⟩ V) {t : Array Value} {w : World} (ht : t.size = nt) (hw : Holds V w) (hL : LOk [] [] L t) {n : Nat} {Q : Exit → Act → World → Prop}
    (hQ : ∀ a w', Behind nt V w I a w' → Q .normal a w') : c.wpIn Fence.wide n P Q ⟨t, []⟩ w := by
  have := h.to0 (k := [.code c, endI I]) rfl (FR := frAll w) (env := []) (t := t) (by exact ht) (wok_all hw) hL .none
  have h2 : c.wp P (post (noEnd P T fn nt V) (frAll w) .none [endI I]) ⟨t, []⟩ w := this
  exact Code.wpIn_mono (fun e a w' hp => by have hp2 := post_no hp; obtain ⟨rfl, hp3⟩ := hp2; exact hQ a w' hp3) (wpIn_wide.2 h2)
theorem rows_in {P : Program} {n : Nat} {row : String} {args : Array Value} {w : World} {R : Value → World → Prop} (h : Rows P row args w R) : RowsIn Fence.wide n P row args w R :=
  fun c cs _ => let ⟨v, w', r, s⟩ := h c cs; ⟨v, w', r, stepsIn_wide.2 s⟩
theorem oper_in {P : Program} {o : Oper} {n : Nat} {a : Act} {w : World} {next next' : Act → World → Prop} {Q Q' : Exit → Act → World → Prop} (h : o.wp P a w next Q)
    (hn : ∀ a w, next a w → next' a w) (hQ : ∀ e a w, Q e a w → e = .normal) : o.wpIn Fence.wide n P a w next' Q' := by
  refine ⟨fun _ _ => trivial, ?_⟩
  have hs : (o.semAt Fence.wide.round a.eval) = execOp a.eval o := Oper.semAt_none _ _
  rw [hs]
  unfold Oper.wp at h
  revert h
  generalize (execOp a.eval o).run P w = r
  intro h
  match r, h with
  | .ok (.value v) w', h => exact hn _ _ h
  | .ok .skip w', h => exact hn _ _ h
  | .ok (.defer d) w', h => exact hn _ _ h
  | .ok (.enter f args) w', h =>
    refine ⟨fun hh => by simp [Fence.wide] at hh, callsIn_wide.2 (Calls.mono h fun e w'' hr => ?_)⟩
    match e, hr with
    | .returned v, hr => exact hn _ _ hr
    | .panicked c, hr => exact absurd (hQ _ _ _ hr) (by simp)
    | .outgrown, hr => obtain ⟨a0, w0, hr⟩ := hr; exact absurd (hQ _ _ _ hr) (by simp)
  | .ok (.row row args) w', h => exact ⟨fun hh => by simp [Fence.wide] at hh, (rows_in h).mono fun v w'' hr => hn _ _ hr⟩
  | .halt (.panic v) w', h => exact absurd (hQ _ _ _ h) (by simp)
theorem wpListIn_pre {P : Program} {ops : Array Oper} {n : Nat} {Q Q' : Exit → Act → World → Prop} {rest : List Oper} (hQ : ∀ e a w, Q e a w → e = .normal) (hn : ∀ a w, Q .normal a w → wpListIn Fence.wide n P ops Q' rest a w) :
    ∀ (pre : List Oper) (a : Act) (w : World), wpList P ops Q pre a w → wpListIn Fence.wide n P ops Q' (pre ++ rest) a w
  | [], a, w, h => hn a w h
  | o :: pre, a, w, h => by
    simp only [List.cons_append, wpListIn]
    simp only [wpList] at h
    split at h
    · rename_i hw
      rw [if_pos hw]
      rcases h with h | ⟨_, a0, w0, h⟩
      · exact oper_in h (fun a w h => wpListIn_pre hQ hn pre a w h) hQ
      · exact absurd (hQ _ _ _ h) (by simp)
    · rename_i hw
      rw [if_neg hw]
      exact ⟨fun _ _ => trivial, wpListIn_pre hQ hn pre _ w h⟩
theorem Exec.head {P : Program} {T : List TyD} {fn : Func} {nt : Nat} {V : View} {pre all rest : List Oper} {id : Nat} {L : Fr} {I : Fr → View → Prop}
    (h : Exec (noEnd P T fn nt V) ⟨[.ops pre all [], endI I], L, []⟩ V) {t : Array Value} {w : World} (ht : t.size = nt) (hw : Holds V w) (hL : LOk [] [] L t) {n : Nat} {Q : Exit → Act → World → Prop} (ha : all = pre ++ rest)
    (hQ : ∀ a w', Behind nt V w I a w' → wpListIn Fence.wide n P ⟨all⟩ Q rest a w') : (Code.region id ⟨all⟩ false).wpIn Fence.wide n P Q ⟨t, []⟩ w := by
  have := h.to (frAll w) .none [] t w ht (wok_all hw) hL (ROk.nil [] _ t) trivial
  have h2 : wpList P ⟨all⟩ (post (noEnd P T fn nt V) (frAll w) .none [endI I]) pre ⟨t, []⟩ w := this
  refine wpIn_region_list ?_
  show wpListIn Fence.wide n P ⟨all⟩ Q all ⟨t, []⟩ w
  have := wpListIn_pre (n := n) (rest := rest) (Q' := Q) (fun e a w h => (post_no h).1) (fun a w' h => hQ a w' (post_no h).2) pre _ _ h2
  rwa [← ha] at this
theorem lok_args (args : List Value) (k : Nat) : LOk [] [] (argFr 0 args) (⟨args⟩ ++ Array.replicate k undef) := by
  intro s x hx
  obtain ⟨v, rfl, _, h2⟩ := argFr_look args 0 s x hx
  refine ⟨?_, trivial⟩
  have hs : s < args.length := (List.getElem?_eq_some_iff.1 h2).1
  rw [Array.getElem?_append]
  simpa [hs, den] using h2
theorem holds_below {V : View} {w w' : World} (h : Holds V w) (hb : Below w.heap.size w w') : Holds V w' := fun a x hx => by
  have h1 := h a x hx
  have hlt : a.block < w.heap.size := by
    refine Nat.lt_of_not_le fun hn => ?_
    have : w.heap[a.block]? = none := by simp; omega
    simp [World.cell?, this] at h1
  rw [World.cell?_of_block (hb.block _ hlt)]; exact h1
structure ItSt (V : View) (w0 : World) (J : List Int → World → Prop) (nt : Nat) (L : Fr) (pre : List Int) (a : Act) (w : World) : Prop where
  df : a.defers = []
  sz : a.tmps.size = nt
  lk : LOk [] [] L a.tmps
  hv : Holds V w
  bl : Below w0.heap.size w0 w
  j : J pre w
section
variable {P : Program} {T : List TyD} {fn : Func} {V : View} {w0 : World} {J : List Int → World → Prop} {nt B n : Nat} {L : Fr} {pre : List Int} {a : Act} {w : World} {I : Fr → View → Prop} {Q : Exit → Act → World → Prop}
theorem ItSt.behind (h : ItSt V w0 J nt L pre a w) (hJ : AbidesFrom B J) {a' : Act} {w' : World} (hb : Behind nt V w I a' w') : ∃ L' V', I L' V' ∧ VLe V V' ∧ ItSt V w0 J nt L' pre a' w' := by
  obtain ⟨h1, h2, L', V', h3, h4, h5, h6, h7⟩ := hb
  exact ⟨L', V', h7, h4, h1, h2, h3, fun a x hx => h5 a x (h4 a x hx), h.bl.trans (h6.mono h.bl.size), hJ pre w w' none h.j (below_grown h6) (fun _ e => by cases e)⟩
theorem ItSt.stretch (h : ItSt V w0 J nt L pre a w) (hJ : AbidesFrom B J) (I : Fr → View → Prop) {c : Code} (hE : Exec (noEnd P T fn nt V) ⟨[.code c, endI I], L, []⟩ V)
    (hQ : ∀ L' V' a' w', I L' V' → VLe V V' → ItSt V w0 J nt L' pre a' w' → Q .normal a' w') : c.wpIn Fence.wide n P Q a w := by
  obtain ⟨t, d⟩ := a
  have hd : d = [] := h.df
  subst hd
  exact Exec.stretch hE h.sz h.hv h.lk (fun a' w' hb => by obtain ⟨L', V', h1, h2, h3⟩ := h.behind hJ hb; exact hQ L' V' a' w' h1 h2 h3)
theorem ItSt.head (h : ItSt V w0 J nt L pre a w) (hJ : AbidesFrom B J) (I : Fr → View → Prop) {ops all rest : List Oper} {id : Nat} (hE : Exec (noEnd P T fn nt V) ⟨[.ops ops all [], endI I], L, []⟩ V) (ha : all = ops ++ rest)
    (hQ : ∀ L' V' a' w', I L' V' → VLe V V' → ItSt V w0 J nt L' pre a' w' → wpListIn Fence.wide n P ⟨all⟩ Q rest a' w') : (Code.region id ⟨all⟩ false).wpIn Fence.wide n P Q a w := by
  obtain ⟨t, d⟩ := a
  have hd : d = [] := h.df
  subst hd
  exact Exec.head hE h.sz h.hv h.lk ha (fun a' w' hb => by obtain ⟨L', V', h1, h2, h3⟩ := h.behind hJ hb; exact hQ L' V' a' w' h1 h2 h3)
theorem ItSt.ops (h : ItSt V w0 J nt L pre a w) (hJ : AbidesFrom B J) (I : Fr → View → Prop) {ops all : List Oper} (hE : Exec (noEnd P T fn nt V) ⟨[.ops ops all [], endI I], L, []⟩ V)
    (hQ : ∀ L' V' a' w', I L' V' → VLe V V' → ItSt V w0 J nt L' pre a' w' → Q .normal a' w') : wpListIn Fence.wide n P ⟨all⟩ Q ops a w := by
  obtain ⟨t, d⟩ := a
  have hd : d = [] := h.df
  subst hd
  have := hE.to (frAll w) .none [] t w h.sz (wok_all h.hv) h.lk (ROk.nil [] _ t) trivial
  have h2 : wpList P ⟨all⟩ (post (noEnd P T fn nt V) (frAll w) .none [endI I]) ops ⟨t, []⟩ w := this
  have := wpListIn_pre (n := n) (rest := []) (Q' := Q) (fun e a w h => (post_no h).1) (fun a w' hp => by
    obtain ⟨L', V', h1, h2, h3⟩ := h.behind hJ (post_no hp).2; exact wpListIn_nil (hQ L' V' a w' h1 h2 h3)) ops _ _ h2
  rwa [List.append_nil] at this
theorem ItSt.eval (h : ItSt V w0 J nt L pre a w) {s : Nat} {x : Value} (hs : lookL L s = some (.v x)) : a.eval (.tmp s) = x := by
  have h1 := (h.lk s (.v x) hs).1
  have h1 : a.tmps[s]? = some x := h1
  simp [Act.eval, Array.getD_eq_getD_getElem?, h1]
theorem ItSt.yield (h : ItSt V w0 J nt L pre a w) {l : Nat} {x : Int} {d g ar : Nat} {rest : List Oper} {all : Array Oper} {o : Oper} {ts : Array TypeId}
    (ho : o.op = .call ⟨.value (.tmp g), #[.tmp ar], ts⟩) (hd : o.dst = some d) (hg : o.guard = none) (hdt : d < nt)
    (h1 : lookL L g = some (.v (.func (.yield l) #[] #[]))) (h2 : lookL L ar = some (.v (.int .i64 x)))
    (hY : YieldAt Fence.wide 0 P l #[encZ x] w fun e W' => e = .returned (.bool true) ∧ J (pre ++ [x]) W' ∧ Below w0.heap.size w0 W') (hw0 : Holds V w0)
    (hQ : ∀ a' w', ItSt V w0 J nt ((d, .v (.bool true)) :: L) (pre ++ [x]) a' w' → wpListIn Fence.wide 0 P all Q rest a' w') : wpListIn Fence.wide 0 P all Q (o :: rest) a w := by
  obtain ⟨f1, f2, f3, f4, hy, hR⟩ := hY
  refine wpListIn_plain hg (fun K hK => ?_)
  refine ⟨fun _ _ => trivial, ?_⟩
  have hs : (o.semAt Fence.wide.round a.eval) = execOp a.eval o := Oper.semAt_none _ _
  rw [hs]
  have he1 : a.tmps[g]? = some (.func (.yield l) #[] #[]) := (h.lk g _ h1).1
  have he2 : a.tmps[ar]? = some (.int .i64 x) := (h.lk ar _ h2).1
  have hrun : (execOp a.eval o).run P w = .ok (.round l f1 f2 f3 f4) w := by
    simp only [execOp, ho]
    simp [go_sem, he1, he2, resolve, invoke]
    exact hy
  rw [hrun, Oper.uponIn_round]
  refine ⟨fun hh => by simp [Fence.wide] at hh, hR.mono ?_⟩
  rintro e W' ⟨rfl, hj, hb⟩
  refine hK _ _ (hQ _ _ ⟨?_, ?_, ?_, holds_below hw0 hb, hb, hj⟩)
  · simp [Act.put, hd, h.df]
  · simp [Act.put, hd, h.sz]
  · have := h.lk.put (x := .v (.bool true)) (d := d) (by rw [h.sz]; exact hdt) trivial
    simpa [Act.put, hd, den] using this
end
end Go.Proofs.YtonijgmopcmldaaGreat

set_option linter.all false
namespace Go.Proofs.YtonijgmopcmldaaGreat
def FnSt1 {σ α : Type} (P : Program) (f : Nat) (ca : List Value) (V : View) (mk : α → Value) (rel : View → σ → RowD → RowD → RowD → Prop) (g : σ → α → Option σ) : Prop :=
  ∀ V', VLe V V' → ∀ s r0 r1 r2 y s', rel V' s r0 r1 r2 → g s y = some s' → SpecR P f (mk y :: ca) [r0, r1, r2] V' (fun V'' v rs' => v = .tuple ⟨[]⟩ ∧ ∃ q0 q1 q2, rs' = [q0, q1, q2] ∧ rel V'' s' q0 q1 q2)
def FnSt2 {σ α α' : Type} (P : Program) (f : Nat) (ca : List Value) (V : View) (mk : α → Value) (mk' : α' → Value) (rel : View → σ → RowD → RowD → RowD → Prop) (g : σ → α → α' → Option σ) : Prop :=
  ∀ V', VLe V V' → ∀ s r0 r1 r2 y y' s', rel V' s r0 r1 r2 → g s y y' = some s' → SpecR P f (mk y :: mk' y' :: ca) [r0, r1, r2] V' (fun V'' v rs' => v = .tuple ⟨[]⟩ ∧ ∃ q0 q1 q2, rs' = [q0, q1, q2] ∧ rel V'' s' q0 q1 q2)
theorem FnSt1.mono {σ α : Type} {P : Program} {f : Nat} {ca : List Value} {V V' : View} {mk : α → Value} {rel : View → σ → RowD → RowD → RowD → Prop} {g : σ → α → Option σ} (h : FnSt1 P f ca V mk rel g) (hv : VLe V V') : FnSt1 P f ca V' mk rel g :=
  fun V2 h2 => h V2 (hv.trans h2)
theorem FnSt2.mono {σ α α' : Type} {P : Program} {f : Nat} {ca : List Value} {V V' : View} {mk : α → Value} {mk' : α' → Value} {rel : View → σ → RowD → RowD → RowD → Prop} {g : σ → α → α' → Option σ} (h : FnSt2 P f ca V mk mk' rel g) (hv : VLe V V') : FnSt2 P f ca V' mk mk' rel g :=
  fun V2 h2 => h V2 (hv.trans h2)
theorem Spec.pure {P : Program} {f : Nat} {args : List Value} {V : View} {x : Value} (hf : IsFn P f) (h : ∀ w, Calls P f ⟨args⟩ w fun e w' => e = .returned x ∧ w' = w) : Spec P f args V (fun _ v => v = x) :=
  ⟨hf, fun w hw => (h w).mono fun e w' ⟨h1, h2⟩ => by
    subst h1; subst h2
    exact ⟨x, V, rfl, Go.RowKit.Below.refl _ _, VLe.refl V, hw, fun a y h => .inl h, rfl⟩⟩
def Lent (M : List OB) (V1 : View) : Prop := ∀ (i : Nat) (a : Option Addr) (n c : Nat) (cs : List Value) (e sz : Nat), nth M i = some (.row (.slice a n c) cs e sz) → (cs ≠ [] → RdAt V1 a 0 cs) ∧ n ≤ c
theorem Exec.callL {C : Ctx} {o : Oper} {rest all : List Oper} {lr : List REnt} {k : List Kt} {L : Fr} {M : List OB} {V : View} {G : List (Nat × Bool)} {d f : Nat} {args : List Value} (x : Value)
    (hh : headOf C.nt all lr L o = some (G, d)) (hc : callOf (opd L lr) G o.op = some (f, args)) (hs : ∀ V1, VLe V V1 → Lent M V1 → Imp lr G (Spec C.P f args V1 fun _ v => v = x))
    (h : Exec C ⟨.ops rest all (⟨d, G, .v x, d⟩ :: lr) :: k, nextL G d (.v x) L, M⟩ V) : Exec C ⟨.ops (o :: rest) all lr :: k, L, M⟩ V := by
  refine Exec.yields (x := .v x) hh (fun FR env t w h2 h3 h4 hG => ⟨trivial, fun K Q hK => ?_⟩) h
  have hlent : Lent M (fun a => w.cell? a) := by
    intro i a n c cs e sz hi
    rw [nth_eq] at hi
    have hsat : rowSat w e sz (.slice a n c) cs := h2.sat i _ hi
    obtain ⟨r1, r2, r3, r4⟩ := rowSat_some hsat
    refine ⟨fun hne => ?_, r2⟩
    rcases r3 with ⟨rfl, rfl, rfl⟩ | ⟨g, rfl⟩
    · exact absurd (List.eq_nil_of_length_eq_zero (by simpa using r1)) hne
    · refine ⟨g, 0, rfl, fun j v hv => ?_⟩
      have := rowSat_cell (off := 0) (l := cs) hsat rfl (fun j v hv => by simpa using hv) j v hv
      simpa using this
  obtain ⟨hfn, hcall⟩ := (hs (fun a => w.cell? a) (fun a y hy => h2.holds a y hy) hlent).out h4 hG
  unfold Oper.wp
  rw [callOf_wp (opd_sound h3 h4) hG hc hfn w]
  refine (hcall w (fun a y hy => hy)).mono fun e w' ⟨v, V', p1, p2, p3, p4, p5, p6⟩ => ?_
  subst p1; subst p6
  refine hK w' ?_
  have hlt : ∀ b o, FR.blk b = some o → b < w.heap.size := fun b o ho => (Array.getElem?_eq_some_iff.1 (h2.frame b o ho)).1
  refine ⟨p2.os.trans h2.os, p2.tape.trans h2.tape, p2.output.trans h2.output, fun b o ho => by rw [p2.block b (hlt b o ho)]; exact h2.frame b o ho, h2.le, fun a y hy => p4 a y (p3 a y (h2.holds a y hy)), h2.fresh, h2.len, ?_, h2.apartV, h2.apartF, h2.apart⟩
  intro i ob hob
  have hs := h2.sat i ob hob
  cases ob with
  | gone => trivial
  | blk cs ty => exact ⟨by rw [p2.block _ (Array.getElem?_eq_some_iff.1 hs.1).1]; exact hs.1, hs.2⟩
  | row y cs e sz => exact rowSat_of hs fun g hg => p2.block _ (OB.own_lt (env := env) (M := M) (b := 0) (o := .row y cs e sz) hs (a := ⟨g, 0, none⟩) hg)
end Go.Proofs.YtonijgmopcmldaaGreat

set_option linter.all false
namespace Go.Proofs.YtonijgmopcmldaaGreat
open Go.RowKit
def FnSpecS1 {α β : Type} [Inhabited α] (P : Program) (f : Nat) (ca : List Value) (V : View) (c : Cd α) (res : β → Value) (g : α → Option β) : Prop :=
  ∀ V', VLe V V' → ∀ y cs r, c.rep V' y cs → g y = some r → Spec P f ([.agg ⟨cs⟩] ++ ca) V' (fun _ v => v = res r)
theorem FnSpecS1.mono {α β : Type} [Inhabited α] {P : Program} {f : Nat} {ca : List Value} {V V' : View} {c : Cd α} {res : β → Value} {g : α → Option β} (h : FnSpecS1 P f ca V c res g) (hv : VLe V V') : FnSpecS1 P f ca V' c res g :=
  fun V1 h1 => h V1 (hv.trans h1)
theorem FnSpecS1.at {α β : Type} [Inhabited α] {P : Program} {f : Nat} {ca : List Value} {V : View} {c : Cd α} {res : β → Value} {g : α → Option β} (h : FnSpecS1 P f ca V c res g) {y : α} {cs : List Value} {r : β} (hrep : c.rep V y cs) (hr : g y = some r) : Spec P f ([.agg ⟨cs⟩] ++ ca) V (fun _ v => v = res r) :=
  h V (VLe.refl V) y cs r hrep hr
theorem run_append_new {P : Program} (w : World) (t ty e : TypeId) (i : TypeInfo) (z : Value) (size bytes : Nat) (ht : P.underlying t = some (.slice e)) (hi : P.info? e = some i) (hz : i.zero = some z)
    (hsize : i.size = size) (hby : i.bytes = bytes) (hzs : z.cells.size = size)
    (a0 : Option Addr) (n c0 : Nat) (xs : List Value) (hxs : xs.length = n * size) (hcase : (a0 = none ∧ n = 0 ∧ c0 = 0) ∨ ∃ b, a0 = some b ∧ ∀ j v, xs[j]? = some v → w.cell? (b.add j) = some v)
    (a : Addr) (m c : Nat) (news : List Value) (hl : news.length = m * size) (hnews : ∀ j u, news[j]? = some u → w.cell? (a.add j) = some u)
    (hm : 0 < m) (hfull : c0 < n + m) (h63 : n + m ≤ maxLen) (hbytes : (n + m) * bytes ≤ 140737488355328) :
    ∃ cap w', (Builtin.append_ #[t, t] ty #[.slice a0 n c0, .slice (some a) m c]).run P w = .ok (.slice (some ⟨w.heap.size, 0, none⟩) (n + m) cap) w' ∧ w'.ownsRow w.heap.size e size (.slice (some ⟨w.heap.size, 0, none⟩) (n + m) cap) (n + m) (xs ++ news) ∧ w.grownBy w' none := by
  subst hsize
  subst hby
  have hsmall : n + m ≤ 9223372036854775807 := by simp only [maxLen] at h63; omega
  have hlen : (xs ++ news).length = (n + m) * i.size := by rw [List.length_append, hxs, hl, Nat.add_mul]
  have grown : ∀ (old : Nat), old < n + m →
      (w.drew.alloc (.cells (xs.toArray ++ news.toArray ++ Builtin.zeroCells z.cells (grownCap w (n + m) old e - (n + m))) e)).ownsRow w.heap.size e i.size
        (.slice (some ⟨w.heap.size, 0, none⟩) (n + m) (grownCap w (n + m) old e)) (n + m) (xs ++ news) ∧
      w.grownBy (w.drew.alloc (.cells (xs.toArray ++ news.toArray ++ Builtin.zeroCells z.cells (grownCap w (n + m) old e - (n + m))) e)) none := by
    intro old ho
    have hge := grownCap_ge w (n + m) old e
    have hcm : grownCap w (n + m) old e ≤ maxLen := grownCap_le_maxLen w (n + m) old e h63
    refine ⟨⟨hlen, .inr ⟨w.heap.size, _, _, rfl, Nat.le_refl _, heap_alloc_new w.drew _, hge, hcm, ?_, ?_⟩⟩, ⟨rfl, rfl, rfl, by simp, fun k hk _ => Below.heap_alloc w.drew _ k hk⟩⟩
    · simp only [Array.size_append, List.size_toArray, size_zeroCells, hzs, hxs, hl, ← Nat.add_mul]
      congr 1
      omega
    · simp only [Array.toList_append, List.append_assoc]
      rw [← List.append_assoc, ← hlen]
      exact List.take_left
  rcases hcase with ⟨rfl, rfl, rfl⟩ | ⟨b, rfl, holds⟩
  · have hx : xs = [] := List.eq_nil_of_length_eq_zero (by simpa using hxs)
    subst hx
    have hr := run_append_nil (P := P) w t ty e i z ht hi hz a m c news hl hnews (by omega) (by omega) (by have hb := hbytes; simp only [Nat.zero_add] at hb; omega)
    have hgr := grown 0 (by omega)
    simp only [Nat.zero_add, List.nil_append, Array.empty_append] at hgr ⊢
    exact ⟨_, _, hr, hgr.1, hgr.2⟩
  · have hr := run_append_grow (P := P) w t ty e i z ht hi hz b n c0 xs hxs holds a m c news hl hnews (by omega) (by omega) (growslice_fits (by omega) hbytes)
    have hgr := grown c0 (by omega)
    exact ⟨_, _, hr, hgr.1, hgr.2⟩
section
variable {C : Ctx} (hT : TOk C.P C.T) {o : Oper} {rest all : List Oper} {lr : List REnt} {k : List Kt} {L : Fr} {M : List OB} {V : View} {d : Nat}
include hT
end
end Go.Proofs.YtonijgmopcmldaaGreat
