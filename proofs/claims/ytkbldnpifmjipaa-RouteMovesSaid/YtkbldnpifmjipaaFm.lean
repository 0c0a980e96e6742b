/-
  A FRAMEWORK FOR PROOFS ABOUT CALLS (part m): rows of bytes of the call's own; the greater of two strings.
  Conditions: the table of types is the program's (TOk).
-/
import Derived.Test.YtkbldnpifmjipaaFl
set_option linter.all false
namespace Go.Proofs.Ytkbldnpifmjipaa

theorem Exec.memG {C : Ctx} {o : Oper} {rest all : List Oper} {lr : List REnt} {k : List Kt} {L : Fr} {M M' : List OB} {V : View} {x : SV} {d : Nat} (hh : headOf C.nt all lr L o = some ([], d))
    (hy : ∀ FR env t w, WOk C.V0 FR env V M w → LOk env M L t → ROk env M lr t → ∃ env' w', (∃ r, env' = env ++ r) ∧ WOk C.V0 FR env' V M' w' ∧ (∀ L, LOk env M L t → LOk env' M' L t) ∧
      (∀ lr, ROk env M lr t → ROk env' M' lr t) ∧ x.ok M' ∧ (execOp (⟨t, []⟩ : Act).eval o).run C.P w = .ok (.value (den env' x)) w')
    (hD : (∃ r, M' = M ++ r) ∨ ∃ i b, M' = M.set i b ∧ wrOk i k = true)
    (h : Exec C ⟨.ops rest all (⟨d, [], x, d⟩ :: lr) :: k, (d, x) :: L, M'⟩ V) : Exec C ⟨.ops (o :: rest) all lr :: k, L, M⟩ V := by
  refine Exec.of fun FR DF env t w h1 h2 h3 h4 h5 => ?_
  obtain ⟨hg, hd, hn, hf, _⟩ := headOf_some hh
  have hdt : d < t.size := by rw [h1]; simpa [Nat.blt_eq] using hn
  obtain ⟨env', w', j1, k1, k2, k3, k4, k5⟩ := hy FR env t w h2 h3 h4
  have hw := guard_sound h4 hg
  show wpList C.P ⟨all⟩ (post C FR DF k) (o :: rest) ⟨t, []⟩ w
  refine wpList_want ?_
  rw [if_pos (hw.2 trivial)]
  refine wp_value k5 ?_
  simp only [Act.put, hd]
  refine h.to FR DF env' (t.setIfInBounds d (den env' x)) w' (by simpa using h1) k1 ((k2 _ h3).put hdt k4)
    ((k3 _ h4).put hdt hf (fun _ => rfl) (fun hn => absurd trivial hn) rfl (.inl rfl) (fun _ => k4)) ?_
  rcases hD with hD | ⟨i, b, rfl, hk⟩
  · exact DOk.grow j1 (VLe.refl V) hD h5.same
  · exact DOk.grow (M := M.set i b) j1 (VLe.refl V) ⟨[], by simp⟩ (DOk.write (M := M) hk h5.same)

/-- What is there, and nobody knows what it is. -/
abbrev OB.unk : OB := .row (.slice none 0 0) [] 0 0

theorem WOk.drop {V0 V : View} {FR : Frm} {env : List Nat} {M : List OB} {w w' : World} (h : WOk V0 FR env V M w) {i : Nat} {cs : List SV} {ty : Nat} (hi : M[i]? = some (.blk cs ty))
    (e1 : w'.os = w.os) (e2 : w'.tape = w.tape) (e3 : w'.output = w.output) (hother : ∀ k, k ≠ envAt env i → w'.heap[k]? = w.heap[k]?) : WOk V0 FR env V (M.set i .unk) w' := by
  have hil : i < M.length := (List.getElem?_eq_some_iff.1 hi).1
  have hown : ∀ a : Addr, a.block = envAt env i → V a = none ∧ FR.blk a.block = none := fun a ha => ⟨h.apartV i _ a hi ha, h.apartF i _ a hi ha⟩
  have hblk : ∀ (j : Nat) (o : OB), j ≠ i → M[j]? = some o → ∀ a : Addr, o.own (envAt env j) a → a.block ≠ envAt env i := fun j o hj ho a ha hb => h.apart j i o _ a hj ho hi ha hb
  have hget : ∀ (j : Nat) (o : OB), (M.set i .unk)[j]? = some o → (j ≠ i ∧ M[j]? = some o) ∨ (j = i ∧ o = .unk) := by
    intro j o ho
    rw [List.getElem?_set] at ho
    split at ho
    · rename_i hj
      subst hj
      simp only [Option.some.injEq] at ho
      exact .inr ⟨rfl, ho.symm⟩
    · rename_i hj
      exact .inl ⟨fun e => hj e.symm, ho⟩
  have hgown : ∀ (j : Nat) (o : OB), (M.set i .unk)[j]? = some o → ∃ o0, M[j]? = some o0 ∧ ∀ a, o.own (envAt env j) a → o0.own (envAt env j) a := by
    intro j o ho
    rcases hget j o ho with ⟨_, ho⟩ | ⟨hj, he⟩
    · exact ⟨o, ho, fun _ h => h⟩
    · subst he; subst hj; exact ⟨_, hi, fun _ h => by simp [OB.own, Value.ownBlock] at h⟩
  refine ⟨e1.trans h.os, e2.trans h.tape, e3.trans h.output, ?_, h.le, ?_, h.fresh, by simp [h.len], ?_, ?_, ?_, ?_⟩
  · intro b o ho
    have : b ≠ envAt env i := by
      intro hb
      have := (hown ⟨b, 0, none⟩ hb).2
      simp only at this
      rw [this] at ho
      simp at ho
    rw [hother b this]
    exact h.frame b o ho
  · intro a x hx
    have : a.block ≠ envAt env i := by
      intro hb
      rw [(hown a hb).1] at hx
      simp at hx
    have hc := h.holds a x hx
    unfold World.cell? at hc ⊢
    rw [hother _ this]
    exact hc
  · intro j o ho
    rcases hget j o ho with ⟨hj, ho⟩ | ⟨hj, he⟩
    · have hs' := h.sat j o ho
      cases o with
      | gone => trivial
      | blk cs2 ty2 =>
        obtain ⟨k1, k2⟩ := hs'
        refine ⟨?_, fun x hx => SV.ok_mono (fun _ => alive_set (by simp)) (k2 x hx)⟩
        rw [hother _ (hblk j _ hj ho ⟨envAt env j, 0, none⟩ rfl)]
        exact k1
      | row x cs e sz => exact rowSat_of hs' fun g hg => hother _ (hblk j _ hj ho ⟨g, 0, none⟩ hg)
    · subst he; subst hj
      exact ⟨0, World.ownsRow_nil _ _ _ _⟩
  · intro j o a ho ha
    obtain ⟨o0, h1, h2⟩ := hgown j o ho
    exact h.apartV j o0 a h1 (h2 a ha)
  · intro j o a ho ha
    obtain ⟨o0, h1, h2⟩ := hgown j o ho
    exact h.apartF j o0 a h1 (h2 a ha)
  · intro j k o o' a hjk ho ho' ha ha'
    obtain ⟨o0, h1, h2⟩ := hgown j o ho
    obtain ⟨o1, h3, h4⟩ := hgown k o' ho'
    exact h.apart j k o0 o1 a hjk h1 h3 (h2 a ha) (h4 a ha')

def byteV (b : UInt8) : SV := .v (.int .u8 b.toNat)

theorem byteV_den (env : List Nat) (l : List UInt8) : (l.map byteV).map (den env) = Lib.byteCells l := by
  rw [List.map_map]
  rfl

theorem byteV_ok (M : List OB) (l : List UInt8) : ∀ x ∈ l.map byteV, x.ok M := by
  intro x hx
  obtain ⟨b, _, rfl⟩ := List.mem_map.1 hx
  trivial

/-- A type of slices of bytes: its element. -/
def bytesTy (T : List TyD) (t : Nat) : Option Nat :=
  match nth T t with
  | some d => match d.size, d.und with
    | _ + 1, .slice e => match nth T e with
      | some ⟨1, 1, .int .u8, [.int .u8 0], _⟩ => some e
      | _ => none
    | _, _ => none
  | none => none

theorem bytesTy_sound {P : Program} {T : List TyD} (hT : TOk P T) {t e : Nat} (h : bytesTy T t = some e) : P.underlying t = some (.slice e) ∧ P.underlying e = some (.int .u8) ∧
    ∃ i z, P.info? e = some i ∧ i.zero = some z ∧ i.size = 1 ∧ i.bytes = 1 ∧ z.cells.toList = [.int .u8 0] := by
  unfold bytesTy at h
  split at h <;> try (simp at h; done)
  rename_i d hd
  split at h <;> try (simp at h; done)
  rename_i n e' hs hu
  split at h <;> try (simp at h; done)
  rename_i eq hed
  simp only [Option.some.injEq] at h; subst h
  refine ⟨t_slice hT hd (by omega) hu, t_int hT hed (by simp) rfl, ?_⟩
  obtain ⟨i, dd, z, h1, h2, h3, h4⟩ := tyD_some (hT.1 _ _ hed (by simp))
  simp only [TyD.mk.injEq] at h4
  obtain ⟨g1, g2, _, g3, _⟩ := h4
  exact ⟨i, z, h1, h3, g1.symm, g2.symm, g3.symm⟩

def mkbOf (T : List TyD) (od : Look) (op : Op) : Option (Int × Nat) :=
  match op with
  | .makeSlice t a b => match bytesTy T t, ev od [] a, ev od [] b with
    | some e, some (.v (.int _ n)), some (.v (.int _ m)) => if n = m then some (n, e) else none
    | _, _, _ => none
  | _ => none

section
variable {C : Ctx} (hT : TOk C.P C.T) {o : Oper} {rest all : List Oper} {lr : List REnt} {k : List Kt} {L : Fr} {M M' : List OB} {V : View} {d : Nat}
include hT

/-- make([]byte, n) -/
theorem Exec.mkb {t : Nat} {a b : Operand} {e n i : Nat} {ka kb : IntKind} (hh : headOf C.nt all lr L o = some ([], d)) (ho : o.op = .makeSlice t a b) (ht : bytesTy C.T t = some e)
    (ha : ev (opd L lr) [] a = some (.v (.int ka (n : Int)))) (hb : ev (opd L lr) [] b = some (.v (.int kb (n : Int)))) (hn : n ≤ 281474976710656)
    (hs : snocN M (.blk (List.replicate n (.v (.int .u8 0))) e) 0 = some (M', i))
    (h : Exec C ⟨.ops rest all (⟨d, [], .slc i 0 n n, d⟩ :: lr) :: k, (d, .slc i 0 n n) :: L, M'⟩ V) : Exec C ⟨.ops (o :: rest) all lr :: k, L, M⟩ V := by
  obtain ⟨rfl, hi⟩ := snocN_sound hs
  refine Exec.memG hh (fun FR env t' w h2 h3 h4 => ?_) (.inl ⟨_, rfl⟩) h
  obtain ⟨u1, u2, ti, z, i1, i2, i3, i4, i5⟩ := bytesTy_sound hT ht
  have hcs : ∀ x ∈ List.replicate n (SV.v (.int .u8 0)), x.ok M := fun x hx => by rw [(List.mem_replicate.1 hx).2]; trivial
  refine ⟨env ++ [w.heap.size], _, ⟨_, rfl⟩, h2.alloc hcs e, fun _ hL => hL.mono h2.len _ _, fun _ hR => hR.mono h2.len _ _, ⟨_, by rw [hi]; simp; rfl, by simp⟩, ?_⟩
  have hm := run_make (P := C.P) w t e ti z u1 i1 i2 ka kb (n : Int) (n : Int) (by omega) (by omega) (by rw [i4]; omega) (by omega)
  have hcells : madeCells z.cells ((n : Int).toNat * ti.size) = ⟨(List.replicate n (SV.v (.int .u8 0))).map (den env)⟩ := by
    have hz : z.cells = ⟨[.int .u8 0]⟩ := by apply Array.ext'; rw [i5]
    rw [i3, hz]
    apply Array.ext'
    simp only [madeCells, Int.toNat_natCast, Nat.mul_one, Array.toList_map, Array.toList_range, List.map_replicate, den]
    rw [List.eq_replicate_iff]
    refine ⟨by simp, fun b hb => ?_⟩
    obtain ⟨j, _, rfl⟩ := List.mem_map.1 hb
    simp [Nat.mod_one]
  rw [hcells] at hm
  unfold execOp
  simp only [ho, ev_sound (opd_sound h3 h4) (G := []) trivial ha, ev_sound (opd_sound h3 h4) (G := []) trivial hb, den, Sem.run_bind, hm, Result.andThen_ok, Sem.run_pure, hi, Nat.zero_add, ← h2.len, envAt_new, Int.toNat_natCast]

/-- copy(b, s) where b is as long as s, and all of its row. -/
theorem Exec.cpb {a b : Operand} {ts : Array TypeId} {t e i n cap : Nat} {cs : List SV} {ty : Nat} {l : List UInt8} (hh : headOf C.nt all lr L o = some ([], d)) (ho : o.op = .call ⟨.builtin .copy, #[a, b], ts⟩)
    (ht0 : ts[0]? = some t) (ht : bytesTy C.T t = some e)
    (ha : ev (opd L lr) [] a = some (.slc i 0 n cap)) (hb : ev (opd L lr) [] b = some (.v (.string ⟨⟨l⟩⟩))) (hM : nth M i = some (.blk cs ty)) (hn : n = l.length) (hcs : cs.length = l.length)
    (hs : setN M i (.blk (l.map byteV) ty) = some M') (hk : wrOk i k = true)
    (h : Exec C ⟨.ops rest all (⟨d, [], .v (.int .i64 l.length), d⟩ :: lr) :: k, (d, .v (.int .i64 l.length)) :: L, M'⟩ V) : Exec C ⟨.ops (o :: rest) all lr :: k, L, M⟩ V := by
  obtain ⟨hi, rfl⟩ := setN_sound hs
  refine Exec.memG (x := .v (.int .i64 l.length)) hh (fun FR env t' w h2 h3 h4 => ?_) (.inr ⟨i, _, rfl, hk⟩) h
  obtain ⟨u1, u2, ti, z, i1, i2, i3, i4, i5⟩ := bytesTy_sound hT ht
  rw [nth_eq] at hM
  have hsat := h2.sat i _ hM
  refine ⟨env, _, ⟨[], by simp⟩, h2.store hM (byteV_ok M l) (by simp [hcs]), fun _ hL => hL.set (by simp), fun _ hR => hR.set (by simp), trivial, ?_⟩
  have hc := Lib.run_copy_row_string (P := C.P) w t (ts.getD 1 0) o.type e (envAt env i) 0 n cap ⟨⟨l⟩⟩ ⟨cs.map (den env)⟩ ty u1 (by rw [i1]; simp [i3]) hsat.1 (by show l.length ≤ n; omega) (by show 0 + l.length ≤ _; simp [hcs])
  have hrow : ((⟨cs.map (den env)⟩ : Array Value).toList.take 0 ++ Lib.byteCells (⟨⟨l⟩⟩ : ByteArray).data.toList ++ (⟨cs.map (den env)⟩ : Array Value).toList.drop (0 + (⟨⟨l⟩⟩ : ByteArray).size)).toArray = ⟨(l.map byteV).map (den env)⟩ := by
    have hsz : (⟨⟨l⟩⟩ : ByteArray).size = l.length := rfl
    rw [byteV_den, hsz, List.drop_of_length_le (by simp [hcs])]
    simp
  rw [hrow] at hc
  have hcopy : (Builtin.copy_ ts o.type #[.slice (some ⟨envAt env i, 0, none⟩) n cap, .string ⟨⟨l⟩⟩]).run C.P w = .ok (.int .i64 l.length) (w.setRow (envAt env i) ⟨(l.map byteV).map (den env)⟩) := by
    unfold Builtin.copy_ at hc ⊢
    simp only [ht0] at hc ⊢
    exact hc
  unfold execOp
  have e1 := ev_sound (opd_sound h3 h4) (G := []) trivial ha
  have e2 := ev_sound (opd_sound h3 h4) (G := []) trivial hb
  simp only [den] at e1 e2
  simp only [ho, resolve, List.map_toArray, List.map_cons, List.map_nil, e1, e2, Sem.run_bind, Sem.run_pure, Result.andThen_ok, invoke, builtin, hcopy, den]

/-- &b[n] of a row of the call's own. -/
theorem Exec.iaO {t : Nat} {a b : Operand} {td ed : TyD} {e i off len cap : Nat} {n : Int} {ka : IntKind} (hh : headOf C.nt all lr L o = some ([], d)) (ho : o.op = .indexAddr t a b) (ht : nth C.T t = some td) (htu : td.und = .slice e) (hts : Nat.blt 0 td.size = true)
    (he : nth C.T e = some ed) (hes : Nat.blt 0 ed.size = true) (ha : ev (opd L lr) [] a = some (.slc i off len cap)) (hb : ev (opd L lr) [] b = some (.v (.int ka n))) (hn : 0 ≤ n ∧ n < len)
    (h : Exec C ⟨.ops rest all (⟨d, [], .ptr i (off + n.toNat * ed.size), d⟩ :: lr) :: k, (d, .ptr i (off + n.toNat * ed.size)) :: L, M⟩ V) : Exec C ⟨.ops (o :: rest) all lr :: k, L, M⟩ V := by
  have hok : ∀ env t', LOk env M L t' → ROk env M lr t' → alive M i := fun env t' h3 h4 => ev_ok (opd_sound h3 h4) (G := []) trivial ha
  refine Exec.yieldsP (x := .ptr i (off + n.toNat * ed.size)) (G := []) hh (fun env t' w h3 h4 _ hG => ⟨hok env t' h3 h4, ?_⟩) h
  have hts' : td.size ≠ 0 := by have : 0 < td.size := by simpa [Nat.blt_eq] using hts
                                omega
  have hes' : ed.size ≠ 0 := by have : 0 < ed.size := by simpa [Nat.blt_eq] using hes
                                omega
  unfold execOp
  simp only [ho, ev_sound (opd_sound h3 h4) hG ha, ev_sound (opd_sound h3 h4) hG hb, den, Instr.indexAt, asIntOf, Sem.run_bind, Sem.run_pure, Result.andThen_ok, run_underlying (t_slice hT ht hts' htu)]
  rw [if_pos hn]
  simp only [Sem.run_bind, t_size hT w he hes', Result.andThen_ok, Sem.run_pure]
  simp [Addr.add_lit]

/-- A string made of a whole row of bytes, in place. -/
theorem Exec.ust {a b : Operand} {pt it : Nat} {pd ed : TyD} {e i : Nat} {l : List UInt8} (hh : headOf C.nt all lr L o = some ([], d)) (ho : o.op = .call ⟨.builtin .unsafeString, #[a, b], #[pt, it]⟩)
    (hp : nth C.T pt = some pd) (hps : Nat.blt 0 pd.size = true) (hpu : pd.und = .ptr e) (he : nth C.T e = some ed) (hes : ed.size = 1)
    (ha : ev (opd L lr) [] a = some (.ptr i 0)) (hb : ev (opd L lr) [] b = some (.v (.int .i64 l.length))) (hM : nth M i = some (.blk (l.map byteV) e)) (h0 : l ≠ []) (h63 : l.length ≤ 9223372036854775807)
    (hs : setN M i .unk = some M') (hk : wrOk i k = true)
    (h : Exec C ⟨.ops rest all (⟨d, [], .v (.string ⟨⟨l⟩⟩), d⟩ :: lr) :: k, (d, .v (.string ⟨⟨l⟩⟩)) :: L, M'⟩ V) : Exec C ⟨.ops (o :: rest) all lr :: k, L, M⟩ V := by
  obtain ⟨hi, rfl⟩ := setN_sound hs
  refine Exec.memG (x := .v (.string ⟨⟨l⟩⟩)) hh (fun FR env t' w h2 h3 h4 => ?_) (.inr ⟨i, _, rfl, hk⟩) h
  rw [nth_eq] at hM
  have hsat := (h2.sat i _ hM).1
  have hps' : pd.size ≠ 0 := by have : 0 < pd.size := by simpa [Nat.blt_eq] using hps
                                omega
  obtain ⟨ti, dd, z, i1, i2, i3, i4⟩ := tyD_some (hT.1 _ _ he (by omega))
  have hco : C.P.cellsOf e = 1 := by
    rw [i4] at hes
    simp only at hes
    simp [Program.cellsOf, i1, hes]
  rw [byteV_den] at hsat
  have hus := Lib.run_unsafeString_row (P := C.P) (w := w) pt it o.type e (t_ptr hT hp hps' hpu) hco (envAt env i) l.length (by unfold World.shape?; rw [hsat]; simp [Lib.byteCells]) l h0 (Nat.le_refl _) h63
    (fun j x hx => by rw [Addr.add_lit, cell_of_row w _ _ _ _ _ hsat]; simp [Lib.byteCells, hx])
  refine ⟨env, _, ⟨[], by simp⟩, WOk.drop (w' := w.freeze ⟨envAt env i, 0, none⟩ l.length) h2 hM ?_ ?_ ?_ ?_, fun _ hL => hL.set (by simp), fun _ hR => hR.set (by simp), trivial, ?_⟩
  · unfold World.freeze; split <;> rfl
  · unfold World.freeze; split <;> rfl
  · unfold World.freeze; split <;> rfl
  · intro k' hk'
    unfold World.freeze
    split
    · rfl
    · simp only [Array.getElem?_modify]
      rw [if_neg (fun e => hk' e.symm)]
  unfold execOp
  have e1 := ev_sound (opd_sound h3 h4) (G := []) trivial ha
  have e2 := ev_sound (opd_sound h3 h4) (G := []) trivial hb
  simp only [den] at e1 e2
  simp only [ho, resolve, List.map_toArray, List.map_cons, List.map_nil, e1, e2, Sem.run_bind, Sem.run_pure, Result.andThen_ok, invoke, builtin, hus, den]

/-- string(b) of a row of the call's own. -/
theorem Exec.b2s {src dst : Nat} {a : Operand} {dd : TyD} {e i cap ty : Nat} {l : List UInt8} (hh : headOf C.nt all lr L o = some ([], d)) (ho : o.op = .convert src dst a) (ht : bytesTy C.T src = some e)
    (hd : nth C.T dst = some dd) (hds : Nat.blt 0 dd.size = true) (hdu : dd.und = .str) {n : Nat} (ha : ev (opd L lr) [] a = some (.slc i 0 n cap)) (hn : n = l.length) {cs : List SV} (hM : nth M i = some (.blk cs ty)) (hcs : cs = l.map byteV)
    (h : Exec C ⟨.ops rest all (⟨d, [], .v (.string ⟨⟨l⟩⟩), d⟩ :: lr) :: k, (d, .v (.string ⟨⟨l⟩⟩)) :: L, M⟩ V) : Exec C ⟨.ops (o :: rest) all lr :: k, L, M⟩ V := by
  subst hcs; subst hn
  refine Exec.yields (x := .v (.string ⟨⟨l⟩⟩)) (G := []) hh (fun FR env t' w h2 h3 h4 hG => ⟨trivial, fun _ _ hK => ?_⟩) h
  obtain ⟨u1, u2, _⟩ := bytesTy_sound hT ht
  have hds' : dd.size ≠ 0 := by have : 0 < dd.size := by simpa [Nat.blt_eq] using hds
                                omega
  rw [nth_eq] at hM
  have hsat := (h2.sat i _ hM).1
  rw [byteV_den] at hsat
  have hb := run_convert_bytes_back (P := C.P) w src dst e ⟨envAt env i, 0, none⟩ cap l u1 u2 (t_str hT hd hds' hdu) (fun j hj => by
    rw [Addr.add_lit, cell_of_row w _ _ _ _ _ hsat]
    simp [Lib.byteCells, List.getElem?_eq_getElem hj])
  refine wp_value ?_ (hK w h2)
  unfold execOp
  simp only [ho, ev_sound (opd_sound h3 h4) hG ha, den, Sem.run_bind, hb, Result.andThen_ok, Sem.run_pure]

omit hT in
/-- The greater of two strings. -/
theorem Exec.smax {a b : Operand} {ts : Array TypeId} {G : List (Nat × Bool)} {x y : List UInt8} (hh : headOf C.nt all lr L o = some (G, d)) (ho : o.op = .call ⟨.builtin .max, #[a, b], ts⟩)
    (ha : ev (opd L lr) G a = some (.v (.string ⟨⟨x⟩⟩))) (hb : ev (opd L lr) G b = some (.v (.string ⟨⟨y⟩⟩)))
    (h : Exec C ⟨.ops rest all (⟨d, G, .v (.string ⟨⟨if sLt x y then y else x⟩⟩), d⟩ :: lr) :: k, nextL G d (.v (.string ⟨⟨if sLt x y then y else x⟩⟩)) L, M⟩ V) : Exec C ⟨.ops (o :: rest) all lr :: k, L, M⟩ V := by
  refine Exec.yieldsP (x := .v (.string ⟨⟨if sLt x y then y else x⟩⟩)) hh (fun env t' w h3 h4 _ hG => ⟨trivial, ?_⟩) h
  unfold execOp
  have e1 := ev_sound (opd_sound h3 h4) hG ha
  have e2 := ev_sound (opd_sound h3 h4) hG hb
  simp only [den] at e1 e2
  have hl : (⟨⟨x⟩⟩ : ByteArray).toList = x := str_toList _
  have hl' : (⟨⟨y⟩⟩ : ByteArray).toList = y := str_toList _
  simp only [ho, resolve, List.map_toArray, List.map_cons, List.map_nil, e1, e2, Sem.run_bind, Sem.run_pure, Result.andThen_ok, invoke, builtin, Builtin.max_, List.foldlM_cons, List.foldlM_nil, Builtin.max2, Op.stringOp, hl, hl', asBool, den]
  cases h : Op.bytesLess x y <;> simp [sLt, h]

end
end Go.Proofs.Ytkbldnpifmjipaa
