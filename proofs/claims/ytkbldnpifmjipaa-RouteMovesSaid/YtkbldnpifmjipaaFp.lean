/-
  A FRAMEWORK FOR PROOFS ABOUT CALLS (part p): contracts of functions that are handed a row of the caller's own, or hand one back.
  Conditions: the table of types is the program's (TOk).
-/
import Derived.Test.YtkbldnpifmjipaaFo
set_option linter.all false
namespace Go.Proofs.Ytkbldnpifmjipaa

structure RowD where
  x : Value
  cs : List Value
  e : Nat
  sz : Nat

def RowD.ob (r : RowD) : OB := .row r.x r.cs r.e r.sz

/-- No row. -/
abbrev RowD.no : RowD := ⟨.slice none 0 0, [], 0, 0⟩

/-- A CONTRACT with a row: called with these arguments, where the row r is the caller's own, in any world in which the view holds: it returns; but for the row nothing that was there is changed; a row is handed back. -/
def SpecM (P : Program) (f : Nat) (args : List Value) (r : RowD) (V : View) (R : View → Value → RowD → Prop) : Prop :=
  IsFn P f ∧ ∀ w, Holds V w → rowSat w r.e r.sz r.x r.cs → (∀ a : Addr, r.x.ownBlock = some a.block → V a = none) → Calls P f ⟨args⟩ w fun e w' => ∃ v V' r', e = .returned v ∧ (w'.os = w.os ∧ w'.tape = w.tape ∧ w'.output = w.output ∧ ∀ k, k < w.heap.size → some k ≠ r.x.ownBlock → w'.heap[k]? = w.heap[k]?) ∧ VLe V V' ∧ Holds V' w' ∧
    (∀ a x, V' a = some x → V a = some x ∨ w.heap.size ≤ a.block ∨ r.x.ownBlock = some a.block) ∧ rowSat w' r'.e r'.sz r'.x r'.cs ∧ (∀ a : Addr, r'.x.ownBlock = some a.block → V' a = none) ∧
    (∀ a : Addr, r'.x.ownBlock = some a.block → r.x.ownBlock = some a.block ∨ w.heap.size ≤ a.block) ∧ R V' v r'

theorem SpecM.mono {P : Program} {f : Nat} {args : List Value} {r : RowD} {V : View} {R R' : View → Value → RowD → Prop} (h : SpecM P f args r V R) (hr : ∀ V' v r', VLe V V' → R V' v r' → R' V' v r') : SpecM P f args r V R' :=
  ⟨h.1, fun w h1 h2 h3 => (h.2 w h1 h2 h3).mono fun _ _ ⟨v, V', r', p1, p2, p3, p4, p5, p6, p7, p8, p9⟩ => ⟨v, V', r', p1, p2, p3, p4, p5, p6, p7, p8, hr V' v r' p3 p9⟩⟩

/-- What a function with such a contract owes at its end: one of its rows, or none. -/
def RowEnd (R : View → Value → RowD → Prop) (V : View) (v : Value) (M : List OB) : Prop := ∃ r', (r'.x = .slice none 0 0 ∧ r'.cs = [] ∨ ∃ i, nth M i = some r'.ob) ∧ R V v r'

theorem RowEnd.at {R : View → Value → RowD → Prop} {V : View} {v x : Value} {cs : List Value} {e sz : Nat} {M : List OB} (i : Nat) (hi : nth M i = some (.row x cs e sz)) (h : R V v ⟨x, cs, e, sz⟩) : RowEnd R V v M := ⟨⟨x, cs, e, sz⟩, .inr ⟨i, hi⟩, h⟩
theorem RowEnd.no {R : View → Value → RowD → Prop} {V : View} {v : Value} {M : List OB} (h : R V v .no) : RowEnd R V v M := ⟨RowD.no, .inl ⟨rfl, rfl⟩, h⟩

open Classical in
theorem SpecM.enter {P : Program} {T : List TyD} {f nt : Nat} {fn : Func} {c : Code} {args : List Value} {r : RowD} {V : View} {R : View → Value → RowD → Prop} {L : Fr}
    (hf : P.funcs[f]? = some fn) (hb : fn.body = some c) (hname : (fn.name == "runtime.NumGoroutine") = false) (hnt : fn.ntmps = nt) (hlen : Nat.ble args.length nt = true) (hL : argFr 0 args = L)
    (h : Exec ⟨P, T, fn, nt, V, RowEnd R⟩ ⟨[.code c], L, [.row r.x r.cs r.e r.sz]⟩ V) : SpecM P f args r V R := by
  refine ⟨⟨fn, hf, by rw [hb]; rfl, hname⟩, fun w hw hrow hap => ?_⟩
  let FR : Frm := ⟨w.os, w.tape, w.output, fun b => if r.x.ownBlock = some b then none else w.heap[b]?⟩
  have hWOk : WOk V FR [0] V [.row r.x r.cs r.e r.sz] w := by
    refine ⟨rfl, rfl, rfl, fun b o ho => ?_, VLe.refl V, hw, fun _ _ h => .inl h, rfl, fun i o h => ?_, fun i o a h ha => ?_, fun i o a h ha => ?_, fun i j o o' a hij h h' => ?_⟩
    · simp only [FR] at ho
      split at ho
      · simp at ho
      · exact ho
    · match i, h with
      | 0, h => simp at h; subst h; exact hrow
    · match i, h with
      | 0, h => simp at h; subst h; exact hap a ha
    · match i, h with
      | 0, h =>
        simp at h; subst h
        have ha : r.x.ownBlock = some a.block := ha
        simp only [FR]
        rw [if_pos ha]
    · match i, j, h, h' with
      | 0, 0, _, _ => exact absurd rfl hij
  have hle := Nat.le_of_ble_eq_true hlen
  have hcall := calls_of_wp (P := P) (f := f) (args := ⟨args⟩) (w := w) (R := endP ⟨P, T, fn, nt, V, RowEnd R⟩ FR) hf hb (by
    refine h.to0 (k := [.code c]) rfl (FR := FR) (env := [0]) (t := (⟨args⟩ : Array Value) ++ Array.replicate (fn.ntmps - args.length) undef) ?_ hWOk ?_ .none
    · simp [hnt]; omega
    · intro s x hx
      rw [← hL] at hx
      obtain ⟨v, rfl, _, h2⟩ := argFr_look args 0 s x hx
      refine ⟨?_, trivial⟩
      have hs : s < args.length := (List.getElem?_eq_some_iff.1 h2).1
      rw [Array.getElem?_append]
      simpa [hs, den] using h2)
  refine hcall.mono fun e w' hp => ?_
  obtain ⟨v, env', V', M', h1, hW', r', hr', hR⟩ := hp
  have hblk : ∀ k, k < w.heap.size → some k ≠ r.x.ownBlock → w'.heap[k]? = w.heap[k]? := fun k hk hne => by
    have h1 : w.heap[k]? = some w.heap[k] := by simp [hk]
    rw [h1]
    refine hW'.frame k _ ?_
    simp only [FR]
    rw [if_neg (fun e => hne e.symm)]
    exact h1
  have hown : ∀ a : Addr, FR.blk a.block = none → r.x.ownBlock = some a.block ∨ w.heap.size ≤ a.block := fun a ha => by
    simp only [FR] at ha
    split at ha
    · rename_i h; exact .inl h
    · right
      refine Nat.le_of_not_lt fun hl => ?_
      simp [hl] at ha
  refine ⟨v, V', r', h1, ⟨hW'.os, hW'.tape, hW'.output, hblk⟩, hW'.le, hW'.holds, fun a x hx => ?_, ?_, ?_, ?_, hR⟩
  · rcases hW'.fresh a x hx with h | h
    · exact .inl h
    · rcases hown a h with h | h
      · exact .inr (.inr h)
      · exact .inr (.inl h)
  all_goals rcases hr' with ⟨hx, hcs⟩ | ⟨i, hi⟩
  · rw [hx, hcs]; exact ⟨0, World.ownsRow_nil _ _ _ _⟩
  · rw [nth_eq] at hi; exact hW'.sat i _ hi
  · intro a ha; rw [hx] at ha; simp [Value.ownBlock] at ha
  · intro a ha; rw [nth_eq] at hi; exact hW'.apartV i _ a hi ha
  · intro a ha; rw [hx] at ha; simp [Value.ownBlock] at ha
  · intro a ha; rw [nth_eq] at hi; exact hown a (hW'.apartF i _ a hi ha)

section
variable {C : Ctx}

/-- A CALL that is handed a row of the call's own, or hands one back. -/
theorem Exec.callM (i : Nat) {o : Oper} {rest all : List Oper} {lr : List REnt} {k : List Kt} {L : Fr} {M : List OB} {V : View} {d f : Nat} {args : List Value} {x : Value} {cs : List Value} {e sz : Nat} {R : View → Value → RowD → Prop}
    (hh : headOf C.nt all lr L o = some ([], d)) (hc : callOf (opd L lr) [] o.op = some (f, args)) (hi : nth M i = some (.row x cs e sz)) (hk : wrOk i k = true) (hs : SpecM C.P f args ⟨x, cs, e, sz⟩ V R)
    (h : ∀ V' v r', VLe V V' → R V' v r' → ∃ M', setN M i r'.ob = some M' ∧ Exec C ⟨.ops rest all (⟨d, [], .v v, d⟩ :: lr) :: k, (d, .v v) :: L, M'⟩ V') : Exec C ⟨.ops (o :: rest) all lr :: k, L, M⟩ V := by
  refine Exec.of fun FR DF env t w h1 h2 h3 h4 h5 => ?_
  rw [nth_eq] at hi
  obtain ⟨hg, hd, hn, hf, _⟩ := headOf_some hh
  have hdt : d < t.size := by rw [h1]; simpa [Nat.blt_eq] using hn
  have hw := guard_sound h4 hg
  show wpList C.P ⟨all⟩ (post C FR DF k) (o :: rest) ⟨t, []⟩ w
  refine wpList_want ?_
  rw [if_pos (hw.2 trivial)]
  obtain ⟨hfn, hcall⟩ := hs
  unfold Oper.wp
  rw [callOf_wp (opd_sound h3 h4) (G := []) trivial hc hfn w]
  refine (hcall w h2.holds (h2.sat i _ hi) (fun a ha => h2.apartV i _ a hi ha)).mono fun e' w' ⟨v, V', r', p1, ⟨q1, q2, q3, q4⟩, p3, p4, p5, p6, p7, p8, p9⟩ => ?_
  subst p1
  obtain ⟨M', hM', hE⟩ := h V' v r' p3 p9
  obtain ⟨_, rfl⟩ := setN_sound hM'
  have hW' : WOk C.V0 FR env V' (M.set i r'.ob) w' := h2.updV hi (by simp [RowD.ob]) q1 q2 q3 (fun kk hk hn => q4 kk hk (fun he => hn he.symm)) p6 p8 p3 p4 p5 p7
  simp only [Act.put, hd]
  exact hE.to FR DF env (t.setIfInBounds d v) w' (by simpa using h1) hW' ((h3.set (by simp [RowD.ob])).put (x := .v v) hdt trivial) ((h4.set (by simp [RowD.ob])).put hdt hf (fun _ => rfl) (fun hn => absurd trivial hn) rfl (.inl rfl) (fun _ => trivial))
    (DOk.grow (M := M.set i r'.ob) ⟨[], by simp⟩ p3 ⟨[], by simp⟩ (DOk.write hk h5.same))

end
end Go.Proofs.Ytkbldnpifmjipaa
