/-
  A FRAMEWORK FOR PROOFS ABOUT CALLS (part f): what strings.Builder's methods need: addresses held against each other, unsafe pointers, bytes of a string behind a row, a row turned to a string.
  Conditions: the table of types is the program's (TOk).
-/
import Derived.Test.YtcgmfmpfmfjmoaaGreatMe
import Derived.Lib.Builder
import Derived.Lib.AppendStr
import Derived.Lib.UnsafeStr
set_option linter.all false
namespace Go.Proofs.YtcgmfmpfmfjmoaaGreat
open Go.RowKit

theorem run_eqGuard_ptr {P : Program} (w : World) (op : BinOp) (t : TypeId) (x y : Operand) (a b : Option Addr) : (eqGuard op t x y (.pointer a) (.pointer b)).run P w = .ok () w := by
  unfold eqGuard
  cases op <;> rfl

theorem run_eql_nil {P : Program} (w : World) {tp te : TypeId} {j : TypeInfo} (hp : P.underlying tp = some (.pointer te)) (hte : P.info? te = some j) : (binOp .eql tp (.pointer none) (.pointer none)).run P w = .ok (.bool true) w := by
  have h : ∀ d : Nat, (Op.equalIn (d + 1) tp (.pointer none) (.pointer none)).run P w = .ok true w := fun d => by
    simp [Op.equalIn, run_underlying hp, sizeOf, typeInfo, hte]
  simp only [binOp]
  simp [Op.equal, Op.maxDepth, h 9999]

theorem run_eql_some {P : Program} (w : World) {tp te : TypeId} {j : TypeInfo} (a : Addr) (hp : P.underlying tp = some (.pointer te)) (hte : P.info? te = some j) : (binOp .eql tp (.pointer (some a)) (.pointer none)).run P w = .ok (.bool false) w := by
  have h : ∀ d : Nat, (Op.equalIn (d + 1) tp (.pointer (some a)) (.pointer none)).run P w = .ok false w := fun d => by
    simp [Op.equalIn, run_underlying hp, sizeOf, typeInfo, hte]
  simp only [binOp]
  simp [Op.equal, Op.maxDepth, h 9999]

section
variable {C : Ctx} {o : Oper} {rest all : List Oper} {lr : List REnt} {k : List Kt} {L : Fr} {M : List OB} {V : View} {d : Nat}

/-- Two addresses held against each other. -/
theorem Exec.ptrB {op : BinOp} {t rt : TypeId} {x y : Operand} {a b : Option Addr} {r : Bool} (hh : headOf C.nt all lr L o = some ([], d)) (ho : o.op = .binOp op t x y rt) (hx : ev (opd L lr) [] x = some (.v (.pointer a))) (hy : ev (opd L lr) [] y = some (.v (.pointer b)))
    (hr : ∀ w, (binOp op t (.pointer a) (.pointer b)).run C.P w = .ok (.bool r) w)
    (h : Exec C ⟨.ops rest all (⟨d, [], .v (.bool r), d⟩ :: lr) :: k, (d, .v (.bool r)) :: L, M⟩ V) : Exec C ⟨.ops (o :: rest) all lr :: k, L, M⟩ V := by
  refine Exec.yields (G := []) (x := .v (.bool r)) hh (fun FR env t0 w h2 h3 h4 _ => ⟨trivial, fun K Q hK => wp_value ?_ (hK w h2)⟩) h
  have e1 := ev_sound (opd_sound h3 h4) (G := []) trivial hx
  have e2 := ev_sound (opd_sound h3 h4) (G := []) trivial hy
  simp only [den] at e1 e2
  unfold execOp
  simp only [ho, e1, e2, Sem.run_bind, run_eqGuard_ptr, Result.andThen_ok, hr, Sem.run_pure, den]

/-- A pointer to a row of the call's own, turned to another type of pointers: the address as it is. -/
theorem Exec.cvP (i : Nat) {src dst : TypeId} {x : Operand} {g q n c e sz : Nat} {cs : List Value} (hh : headOf C.nt all lr L o = some ([], d)) (ho : o.op = .convert src dst x) (hx : ev (opd L lr) [] x = some (.v (.pointer (some ⟨g, q, none⟩))))
    (hi : nth M i = some (.row (.slice (some ⟨g, 0, none⟩) n c) cs e sz)) (hr : ∀ w : World, w.shape? g = some (e, c * sz) → (convert src dst (.pointer (some ⟨g, q, none⟩))).run C.P w = .ok (.pointer (some ⟨g, q, none⟩)) w)
    (h : Exec C ⟨.ops rest all (⟨d, [], .v (.pointer (some ⟨g, q, none⟩)), d⟩ :: lr) :: k, (d, .v (.pointer (some ⟨g, q, none⟩))) :: L, M⟩ V) : Exec C ⟨.ops (o :: rest) all lr :: k, L, M⟩ V := by
  refine Exec.yields (G := []) (x := .v (.pointer (some ⟨g, q, none⟩))) hh (fun FR env t0 w h2 h3 h4 _ => ⟨trivial, fun K Q hK => wp_value ?_ (hK w h2)⟩) h
  rw [nth_eq] at hi
  have hsi : rowSat w e sz (.slice (some ⟨g, 0, none⟩) n c) cs := h2.sat i _ hi
  obtain ⟨cur, k2, k3, k4, k5, r1, k6⟩ := rowSat_cur hsi
  have e1 := ev_sound (opd_sound h3 h4) (G := []) trivial hx
  simp only [den] at e1
  unfold execOp
  simp only [ho, e1, Sem.run_bind, hr w (by simp [World.shape?, k2, k5]), Result.andThen_ok, Sem.run_pure, den]

/-- abi.NoEscape. -/
theorem Exec.nesc {f : Nat} {args : List Value} {fn : Func} {v : Value} (hh : headOf C.nt all lr L o = some ([], d)) (hc : callOf (opd L lr) [] o.op = some (f, args)) (hargs : args = [v])
    (hf : C.P.funcs[f]? = some fn) (hname : (fn.name == "runtime.NumGoroutine") = false) (hb : fn.body.isNone = true) (hn : Extern.findNext fn = none) (he : Extern.find fn = some Extern.AbiNoEscape.same)
    (h : Exec C ⟨.ops rest all (⟨d, [], .v v, d⟩ :: lr) :: k, (d, .v v) :: L, M⟩ V) : Exec C ⟨.ops (o :: rest) all lr :: k, L, M⟩ V := by
  subst hargs
  refine Exec.yields (G := []) (x := .v v) hh (fun FR env t0 w h2 h3 h4 _ => ⟨trivial, fun K Q hK => wp_value (callE_run (opd_sound h3 h4) hc hf hname hb hn he (v := v) (w' := w) ?_) (hK w h2)⟩) h
  exact Lib.run_noEscape w v

end

section
variable {C : Ctx} (hT : TOk C.P C.T) {o : Oper} {rest all : List Oper} {lr : List REnt} {k : List Kt} {L : Fr} {M : List OB} {V : View} {d : Nat}
include hT

/-- append(r, s...): r is a row of bytes of the call's own, s a string. -/
theorem Exec.apStr (i : Nat) {sa sb : Operand} {t u e n c nm : Nat} {dd : TyD} {a : Option Addr} {cs : List Value} {l : Str} {M' : Option Addr → Nat → List OB}
    (hh : headOf C.nt all lr L o = some ([], d)) (ho : o.op = .call ⟨.builtin .append, #[sa, sb], #[t, u]⟩) (ht : bytesTy C.T t = some e) (hz : (C.P.info? e).map (fun i => (i.zero, i.size, i.bytes)) = some (some (.int .u8 0), 1, 1)) (hd : nth C.T u = some dd) (hds : Nat.blt 0 dd.size = true) (hdu : dd.und = .str)
    (ha : ev (opd L lr) [] sa = some (.v (.slice a n c))) (hb : ev (opd L lr) [] sb = some (.v (.string ⟨⟨l⟩⟩))) (hi : nth M i = some (.row (.slice a n c) cs e 1)) (hnm : n + l.length = nm) (hbnd : nm ≤ 140737488355328)
    (hs : ∀ a' c', setN M i (.row (.slice a' nm c') (cs ++ Lib.byteCells l) e 1) = some (M' a' c')) (hk : wrOk i k = true)
    (h : ∀ a' c', Exec C ⟨.ops rest all (⟨d, [], .v (.slice a' nm c'), d⟩ :: lr) :: k, (d, .v (.slice a' nm c')) :: L, M' a' c'⟩ V) : Exec C ⟨.ops (o :: rest) all lr :: k, L, M⟩ V := by
  subst hnm
  refine Exec.rowS (σ := Option Addr × Nat) i (fun q => .slice q.1 (n + l.length) q.2) (fun q => .row (.slice q.1 (n + l.length) q.2) (cs ++ Lib.byteCells l) e 1) (fun q => M' q.1 q.2) hh (fun q => by simp) (fun q => hs q.1 q.2) hk (fun FR env t' w h2 h3 h4 => ?_) (fun q => h q.1 q.2)
  obtain ⟨u1, u2, _⟩ := bytesTy_sound hT ht
  have hds' : dd.size ≠ 0 := by have : 0 < dd.size := by simpa [Nat.blt_eq] using hds
                                omega
  have u3 := t_str hT hd hds' hdu
  obtain ⟨ti, i1, i2⟩ := Option.map_eq_some_iff.1 hz
  simp only [Prod.mk.injEq] at i2
  obtain ⟨hz, i3, i4⟩ := i2
  have hi' := hi
  rw [nth_eq] at hi'
  have hsat : rowSat w e 1 (.slice a n c) cs := h2.sat i _ hi'
  obtain ⟨r1, r2, r3, r4⟩ := rowSat_some hsat
  have hsz : (⟨⟨l⟩⟩ : ByteArray).size = l.length := rfl
  have hmx : n + (⟨⟨l⟩⟩ : ByteArray).size ≤ maxLen := by simp only [maxLen]; rw [hsz]; omega
  have key : ∃ a' c' w', (Builtin.append_ #[t, u] o.type #[.slice a n c, .string ⟨⟨l⟩⟩]).run C.P w = .ok (.slice a' (n + l.length) c') w' ∧ w'.ownsRow 0 e 1 (.slice a' (n + l.length) c') (n + l.length) (cs ++ Lib.byteCells l) ∧ w.grownBy w' (Value.slice a n c).ownBlock ∧
      ((Value.slice a' (n + l.length) c').ownBlock = (Value.slice a n c).ownBlock ∨ ∀ g, (Value.slice a' (n + l.length) c').ownBlock = some g → w.heap.size ≤ g) := by
    rcases r3 with ⟨rfl, rfl, rfl⟩ | ⟨g, rfl⟩
    · have hcs : cs = [] := List.eq_nil_of_length_eq_zero (by simpa using r1)
      subst hcs
      obtain ⟨v', w', q1, q2, q3, _⟩ := Lib.run_append_own_string (P := C.P) (w := w) w.heap.size t u o.type e ti u1 u3 i1 hz i3 i4 (.slice none 0 0) 0 [] (World.ownsRow_nil w _ e 1) ⟨⟨l⟩⟩ hmx (by rw [hsz]; exact hbnd) (Nat.le_refl _)
      rw [hsz] at q2
      rcases q2.2 with ⟨h, h'⟩ | ⟨g, cap, cur, h, k1, k2, k3, k4, k5, k6⟩
      · subst h
        refine ⟨none, 0, w', ?_, ⟨q2.1, .inl ⟨?_, h'⟩⟩, q3, .inl rfl⟩
        · rw [q1]; congr 2; exact h'.symm
        · congr 1
      · subst h
        refine ⟨_, _, w', q1, ⟨q2.1, .inr ⟨g, cap, cur, rfl, Nat.zero_le _, k2, k3, k4, k5, k6⟩⟩, q3, .inr fun g' hg' => ?_⟩
        simp only [Value.ownBlock, Option.map_some, Option.some.injEq] at hg'
        omega
    · obtain ⟨v', w', q1, q2, q3, _⟩ := Lib.run_append_own_string (P := C.P) (w := w) 0 t u o.type e ti u1 u3 i1 hz i3 i4 (.slice (some ⟨g, 0, none⟩) n c) n cs r4 ⟨⟨l⟩⟩ hmx (by rw [hsz]; exact hbnd) (Nat.zero_le _)
      rw [hsz] at q2
      obtain ⟨cur, k2, k3, k4, k5, k1, k6⟩ := rowSat_cur hsat
      by_cases hroom : n + (⟨⟨l⟩⟩ : ByteArray).size ≤ c
      · have hr := Lib.run_append_room_string (P := C.P) w t u o.type e ti u1 u3 i1 i3 g n c cur k2 ⟨⟨l⟩⟩ hroom (by rw [k5]; omega)
        rw [hr] at q1
        simp only [Result.ok.injEq] at q1
        obtain ⟨rfl, rfl⟩ := q1
        exact ⟨_, _, _, hr, q2, q3, .inl rfl⟩
      · have hr := Lib.run_append_grow_string (P := C.P) w t u o.type e ti (.int .u8 0) u1 u3 i1 hz ⟨g, 0, none⟩ n c cs (by rw [i3]; exact r1) (r4.cells (g := g) rfl) ⟨⟨l⟩⟩ (by omega) (by rw [hsz]; omega) (by rw [i4]; exact growslice_fits (by rw [hsz]; omega) (by rw [hsz]; omega))
        rw [hr] at q1
        simp only [Result.ok.injEq] at q1
        obtain ⟨rfl, rfl⟩ := q1
        exact ⟨_, _, _, hr, q2, q3, .inr fun g' hg' => by simp only [Value.ownBlock, Option.map_some, Option.some.injEq] at hg'; omega⟩
  obtain ⟨a', c', w', q1, q2, q3, q5⟩ := key
  refine ⟨(a', c'), w', ?_, ?_⟩
  · refine h2.upd hi' (by simp) q3.os q3.tape q3.output (fun kk hk' hn => q3.block kk hk' (not_own hn)) ⟨_, q2⟩ (fun p hp => ?_)
    simp only [OB.own] at hp ⊢
    rcases q5 with q5 | q5
    · exact .inl (q5 ▸ hp)
    · exact .inr (q5 _ hp)
  · unfold execOp
    have e1 := ev_sound (opd_sound h3 h4) (G := []) trivial ha
    have e2 := ev_sound (opd_sound h3 h4) (G := []) trivial hb
    simp only [den] at e1 e2
    simp only [ho, resolve, List.map_toArray, List.map_cons, List.map_nil, e1, e2, Sem.run_bind, Sem.run_pure, Result.andThen_ok, invoke, builtin, q1]

omit hT in
/-- unsafe.SliceData of a row that has room. -/
theorem Exec.usd {sa : Operand} {t n c g : Nat} (hh : headOf C.nt all lr L o = some ([], d)) (ho : o.op = .call ⟨.builtin .unsafeSliceData, #[sa], #[t]⟩) (ha : ev (opd L lr) [] sa = some (.v (.slice (some ⟨g, 0, none⟩) n c))) (hc : c ≠ 0)
    (h : Exec C ⟨.ops rest all (⟨d, [], .v (.pointer (some ⟨g, 0, none⟩)), d⟩ :: lr) :: k, (d, .v (.pointer (some ⟨g, 0, none⟩))) :: L, M⟩ V) : Exec C ⟨.ops (o :: rest) all lr :: k, L, M⟩ V := by
  refine Exec.yieldsP (G := []) (x := .v (.pointer (some ⟨g, 0, none⟩))) hh (fun env t0 w h3 h4 _ _ => ⟨trivial, ?_⟩) h
  have e1 := ev_sound (opd_sound h3 h4) (G := []) trivial ha
  simp only [den] at e1
  unfold execOp
  simp only [ho, resolve, List.map_toArray, List.map_cons, List.map_nil, e1, Sem.run_bind, Sem.run_pure, Result.andThen_ok, invoke, builtin, Lib.run_unsafeSliceData_row _ _ _ _ _ _ hc, den]

/-- unsafe.String over all that a row holds: the row is given up. -/
theorem Exec.ustR (i : Nat) {sa sb : Operand} {pt it e g n c : Nat} {l : Str} {M' : List OB} (hh : headOf C.nt all lr L o = some ([], d)) (ho : o.op = .call ⟨.builtin .unsafeString, #[sa, sb], #[pt, it]⟩)
    (hp : C.P.underlying pt = some (.pointer e)) (hce : C.P.cellsOf e = 1) (ha : ev (opd L lr) [] sa = some (.v (.pointer (some ⟨g, 0, none⟩)))) (hb : ev (opd L lr) [] sb = some (.v (.int .i64 (n : Int)))) (hi : nth M i = some (.row (.slice (some ⟨g, 0, none⟩) n c) (Lib.byteCells l) e 1)) (h0 : l ≠ [])
    (hs : setN M i (.row (.slice none 0 0) [] e 1) = some M') (hk : wrOk i k = true)
    (h : Exec C ⟨.ops rest all (⟨d, [], .v (.string ⟨⟨l⟩⟩), d⟩ :: lr) :: k, (d, .v (.string ⟨⟨l⟩⟩)) :: L, M'⟩ V) : Exec C ⟨.ops (o :: rest) all lr :: k, L, M⟩ V := by
  refine Exec.rowS (σ := Unit) i (fun _ => .string ⟨⟨l⟩⟩) (fun _ => .row (.slice none 0 0) [] e 1) (fun _ => M') hh (fun _ => by simp) (fun _ => hs) hk (fun FR env t' w h2 h3 h4 => ?_) (fun _ => h)
  have hi' := hi
  rw [nth_eq] at hi'
  have hsat : rowSat w e 1 (.slice (some ⟨g, 0, none⟩) n c) (Lib.byteCells l) := h2.sat i _ hi'
  obtain ⟨r1, r2, r3, r4⟩ := rowSat_some hsat
  obtain ⟨cur, k2, k3, k4, k5, k1, k6⟩ := rowSat_cur hsat
  have hn : n = l.length := by simpa [Lib.byteCells] using r1.symm
  subst hn
  have hr := Lib.run_unsafeString_row (P := C.P) w pt it o.type e hp hce g cur.size (by simp [World.shape?, k2]) l h0 (by rw [k5]; omega) (by simp only [maxLen] at k4; omega) (fun j x hx => by
    refine r4.cells (g := g) rfl j _ ?_
    simp [Lib.byteCells, List.getElem?_map, hx])
  refine ⟨(), w.freeze ⟨g, 0, none⟩ l.length, ?_, ?_⟩
  · refine h2.upd hi' (by simp) (by unfold World.freeze; split <;> rfl) (by unfold World.freeze; split <;> rfl) (by unfold World.freeze; split <;> rfl) (fun kk hk' hn => ?_) ⟨0, World.ownsRow_nil _ 0 e 1⟩ (fun p hp => by simp [OB.own, Value.ownBlock] at hp)
    have hne : kk ≠ g := fun he => hn (by simp [OB.own, Value.ownBlock, he])
    unfold World.freeze
    split
    · rfl
    · simp only [Array.getElem?_modify]
      rw [if_neg (fun e => hne e.symm)]
  · unfold execOp
    have e1 := ev_sound (opd_sound h3 h4) (G := []) trivial ha
    have e2 := ev_sound (opd_sound h3 h4) (G := []) trivial hb
    simp only [den] at e1 e2
    simp only [ho, resolve, List.map_toArray, List.map_cons, List.map_nil, e1, e2, Sem.run_bind, Sem.run_pure, Result.andThen_ok, invoke, builtin, hr]
end

def evParts (od : Look) : List (Nat × Operand) → Option (List (Nat × Value))
  | [] => some []
  | (i, x) :: l => match ev od [] x with
    | some (.v a) => match evParts od l with
      | some r => some ((i, a) :: r)
      | none => none
    | _ => none

theorem evParts_sound {env : List Nat} {M : List OB} {t : Array Value} {od : Look} (hO : Tells env M t od) : ∀ {xs : List (Nat × Operand)} {vs : List (Nat × Value)}, evParts od xs = some vs → xs.map (fun p => (p.1, (⟨t, []⟩ : Act).eval p.2)) = vs
  | [], vs, h => by simp only [evParts, Option.some.injEq] at h; subst h; rfl
  | (i, x) :: xs, vs, h => by
    unfold evParts at h
    split at h <;> try (simp at h; done)
    rename_i a hx
    split at h <;> try (simp at h; done)
    rename_i r hr
    simp only [Option.some.injEq] at h
    subst h
    have e1 := ev_sound hO (G := []) trivial hx
    simp only [den] at e1
    simp only [List.map_cons, e1, evParts_sound hO hr]

section
variable {C : Ctx} {o : Oper} {rest all : List Oper} {lr : List REnt} {k : List Kt} {L : Fr} {M : List OB} {V : View} {d : Nat}

/-- A value built of its parts, whatever its type. -/
theorem Exec.bldP {t : TypeId} {xs : List (Nat × Operand)} {vs : List (Nat × Value)} {r : Value} (hh : headOf C.nt all lr L o = some ([], d)) (ho : o.op = .build t ⟨xs⟩) (hv : evParts (opd L lr) xs = some vs) (hr : ∀ w, (Instr.build t ⟨vs⟩).run C.P w = .ok r w)
    (h : Exec C ⟨.ops rest all (⟨d, [], .v r, d⟩ :: lr) :: k, (d, .v r) :: L, M⟩ V) : Exec C ⟨.ops (o :: rest) all lr :: k, L, M⟩ V := by
  refine Exec.yieldsP (G := []) (x := .v r) hh (fun env t0 w h3 h4 _ _ => ⟨trivial, ?_⟩) h
  have e1 := evParts_sound (opd_sound h3 h4) hv
  unfold execOp
  simp only [ho, List.map_toArray, e1, Sem.run_bind, hr, Result.andThen_ok, Sem.run_pure, den]

/-- An element of an array value. -/
theorem Exec.idxA {t : TypeId} {x i : Operand} {v n r : Value} (hh : headOf C.nt all lr L o = some ([], d)) (ho : o.op = .index t x i) (hx : ev (opd L lr) [] x = some (.v v)) (hi : ev (opd L lr) [] i = some (.v n)) (hr : ∀ w, (Instr.index t v n).run C.P w = .ok r w)
    (h : Exec C ⟨.ops rest all (⟨d, [], .v r, d⟩ :: lr) :: k, (d, .v r) :: L, M⟩ V) : Exec C ⟨.ops (o :: rest) all lr :: k, L, M⟩ V := by
  refine Exec.yieldsP (G := []) (x := .v r) hh (fun env t0 w h3 h4 _ _ => ⟨trivial, ?_⟩) h
  have e1 := ev_sound (opd_sound h3 h4) (G := []) trivial hx
  have e2 := ev_sound (opd_sound h3 h4) (G := []) trivial hi
  simp only [den] at e1 e2
  unfold execOp
  simp only [ho, e1, e2, Sem.run_bind, hr, Result.andThen_ok, Sem.run_pure, den]
end

end Go.Proofs.YtcgmfmpfmfjmoaaGreat
