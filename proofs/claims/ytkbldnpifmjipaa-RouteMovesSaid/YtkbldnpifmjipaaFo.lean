/-
  A FRAMEWORK FOR PROOFS ABOUT CALLS (part o): rows: make, append, load, store, slices of slices.
  Conditions: the table of types is the program's (TOk).
-/
import Derived.Test.YtkbldnpifmjipaaFn
set_option linter.all false
namespace Go.Proofs.Ytkbldnpifmjipaa

/-- A type of slices: its element's number, cells and bytes, and the element's zero. -/
def sliceTy (T : List TyD) (t : Nat) : Option (Nat × Nat × Nat × List Value) :=
  match nth T t with
  | some d => match d.size, d.und with
    | _ + 1, .slice e => match nth T e with
      | some ed => match ed.size with
        | 0 => none
        | sz + 1 => match Nat.beq ed.zero.length (sz + 1), Nat.beq ed.bytes 0 with
          | true, false => some (e, sz + 1, ed.bytes, ed.zero)
          | _, _ => none
      | none => none
    | _, _ => none
  | none => none

theorem sliceTy_sound {P : Program} {T : List TyD} (hT : TOk P T) {t e sz bys : Nat} {zs : List Value} (h : sliceTy T t = some (e, sz, bys, zs)) :
    P.underlying t = some (.slice e) ∧ 0 < sz ∧ 0 < bys ∧ zs.length = sz ∧ ∃ i z, P.info? e = some i ∧ i.zero = some z ∧ i.size = sz ∧ i.bytes = bys ∧ z.cells.size = sz ∧ z.cells.toList = zs := by
  unfold sliceTy at h
  split at h <;> try (simp at h; done)
  rename_i d hd
  split at h <;> try (simp at h; done)
  rename_i n e' hs hu
  split at h <;> try (simp at h; done)
  rename_i ed hed
  split at h <;> try (simp at h; done)
  rename_i sz' hsz
  split at h <;> try (simp at h; done)
  rename_i hz hb
  simp only [Option.some.injEq, Prod.mk.injEq] at h
  obtain ⟨rfl, rfl, rfl, rfl⟩ := h
  have hz' := beq_nat hz
  have hb' := beq_nat_false hb
  obtain ⟨i, dd, z, h1, h2, h3, h4⟩ := tyD_some (hT.1 _ _ hed (by omega))
  subst h4
  simp only at hz' hb' hsz ⊢
  exact ⟨t_slice hT hd (by omega) hu, by omega, by omega, hz', i, z, h1, h3, hsz, rfl, by simpa using hz', rfl⟩

def appTy (T : List TyD) (op : Op) : Option (Operand × Operand × Nat × Nat × Nat × Nat) :=
  match op with
  | .call ⟨.builtin .append, ⟨[sa, sb]⟩, ⟨[t, t']⟩⟩ => match Nat.beq t t', sliceTy T t with
    | true, some (e, sz, bys, _) => some (sa, sb, t, e, sz, bys)
    | _, _ => none
  | _ => none

theorem appTy_op {T : List TyD} {op : Op} {sa sb : Operand} {t e sz bys : Nat} (h : appTy T op = some (sa, sb, t, e, sz, bys)) :
    op = .call ⟨.builtin .append, #[sa, sb], #[t, t]⟩ ∧ ∃ zs, sliceTy T t = some (e, sz, bys, zs) := by
  unfold appTy at h
  split at h <;> try (simp at h; done)
  rename_i sa' sb' t1 t2
  split at h <;> try (simp at h; done)
  rename_i e' sz' bys' zs hb ht
  simp only [Option.some.injEq, Prod.mk.injEq] at h
  obtain ⟨rfl, rfl, rfl, rfl, rfl, rfl⟩ := h
  have := beq_nat hb
  subst this
  exact ⟨rfl, zs, ht⟩

theorem slice_form {w : World} {base e sz n m : Nat} {v : Value} {xs : List Value} (h : w.ownsRow base e sz v n xs) (_ : m = n) : ∃ a c, v = .slice a m c := by
  rename_i hm
  subst hm
  rcases h.2 with ⟨rfl, rfl⟩ | ⟨g, cap, cur, rfl, _⟩
  · exact ⟨none, 0, rfl⟩
  · exact ⟨some ⟨g, 0, none⟩, cap, rfl⟩

theorem not_own {x : Value} {k : Nat} {env : List Nat} {i : Nat} {cs : List Value} {e sz : Nat} (h : ¬ (OB.row x cs e sz).own (envAt env i) ⟨k, 0, none⟩) : some k ≠ x.ownBlock := fun he => h he.symm

section
variable {C : Ctx} (hT : TOk C.P C.T) {o : Oper} {rest all : List Oper} {lr : List REnt} {k : List Kt} {L : Fr} {M : List OB} {V : View} {d : Nat}
include hT

/-- What an append to a row of the call's own does. -/
theorem app_core {FR : Frm} {env : List Nat} {t' : Array Value} {w : World} (h2 : WOk C.V0 FR env V M w) (h3 : LOk env M L t') (h4 : ROk env M lr t') {sa sb : Operand} {t e sz bys i n c m c2 : Nat} {a : Option Addr} {ad : Addr} {cs news : List Value}
    (hc : appTy C.T o.op = some (sa, sb, t, e, sz, bys)) (ha : ev (opd L lr) [] sa = some (.v (.slice a n c))) (hi : M[i]? = some (.row (.slice a n c) cs e sz))
    {x : Value} (hb : (⟨t', []⟩ : Act).eval sb = x) (hx : (Builtin.append_ #[t, t] o.type #[.slice a n c, x]).run C.P w = (Builtin.append_ #[t, t] o.type #[.slice a n c, .slice (some ad) m c2]).run C.P w) (hl : news.length = m * sz) (hnews : ∀ j u, news[j]? = some u → w.cell? (ad.add j) = some u) (h1 : ∀ u ∈ news, u.oneCell' = true) (hbnd : (n + m) * bys ≤ 140737488355328) :
    ∃ a' c' w', (execOp (⟨t', []⟩ : Act).eval o).run C.P w = .ok (.value (.slice a' (n + m) c')) w' ∧ WOk C.V0 FR env V (M.set i (.row (.slice a' (n + m) c') (cs ++ news) e sz)) w' := by
  obtain ⟨hop, zs, hts⟩ := appTy_op hc
  obtain ⟨u1, u2, u3, _, ti, z, i1, i2, i3, i4, i5, _⟩ := sliceTy_sound hT hts
  have hsat := h2.sat i _ hi
  obtain ⟨r1, r2, r3, r4⟩ := rowSat_some hsat
  have hle : n + m ≤ maxLen := by
    have : n + m ≤ (n + m) * bys := Nat.le_mul_of_pos_right _ u3
    simp only [maxLen]
    omega
  obtain ⟨v', w', q1, q2, q3, q4, q5⟩ := run_append_own_at (P := C.P) w 0 t o.type e ti z sz bys u1 i1 i2 i3 i4 i5 u2 _ n cs r4 ad m c2 news hl hnews h1 hle hbnd (Nat.zero_le _)
  obtain ⟨a', c', rfl⟩ := slice_form q2 rfl
  refine ⟨a', c', w', ?_, h2.upd hi (by simp) q3.os q3.tape q3.output (fun kk hk hn => q3.block kk hk (not_own hn)) ⟨_, q2⟩ (fun p hp => ?_)⟩
  · unfold execOp
    have e1 := ev_sound (opd_sound h3 h4) (G := []) trivial ha
    simp only [den] at e1
    simp only [hop, resolve, List.map_toArray, List.map_cons, List.map_nil, e1, hb, Sem.run_bind, Sem.run_pure, Result.andThen_ok, invoke, builtin, hx, q1]
  · simp only [OB.own] at hp ⊢
    rcases q5 with q5 | q5
    · exact .inl (q5 ▸ hp)
    · right
      rw [q5] at hp
      simp at hp
      omega

/-- append(s, x, ..): s is a row of the call's own. -/
theorem Exec.app (i j : Nat) {sa sb : Operand} {t e sz bys n c m c2 ty nm : Nat} {a : Option Addr} {cs news : List Value} {ns : List SV} {M' : Option Addr → Nat → List OB}
    (hh : headOf C.nt all lr L o = some ([], d)) (hc : appTy C.T o.op = some (sa, sb, t, e, sz, bys)) (ha : ev (opd L lr) [] sa = some (.v (.slice a n c))) (hb : ev (opd L lr) [] sb = some (.slc j 0 m c2))
    (hi : nth M i = some (.row (.slice a n c) cs e sz)) (hj : nth M j = some (.blk ns ty)) (hv : vals ns = some news) (h1 : allOne ns = true) (hl : news.length = m * sz) (hnm : n + m = nm) (hs : ∀ a' c', setN M i (.row (.slice a' nm c') (cs ++ news) e sz) = some (M' a' c')) (hk : wrOk i k = true)
    (hbnd : nm * bys ≤ 140737488355328)
    (h : ∀ a' c', Exec C ⟨.ops rest all (⟨d, [], .v (.slice a' nm c'), d⟩ :: lr) :: k, (d, .v (.slice a' nm c')) :: L, M' a' c'⟩ V) : Exec C ⟨.ops (o :: rest) all lr :: k, L, M⟩ V := by
  subst hnm
  refine Exec.of fun FR DF env t' w g1 h2 h3 h4 h5 => ?_
  rw [nth_eq] at hi hj
  have hsj := (h2.sat j _ hj).1
  have hns := vals_sound (env := env) hv
  rw [hns] at hsj
  have hb' := ev_sound (opd_sound h3 h4) (G := []) trivial hb
  obtain ⟨a', c', w', p1, p2⟩ := app_core hT h2 h3 h4 hc ha hi (by rw [hb']; rfl) rfl hl (fun jj u hu => by
    rw [Addr.add_lit, cell_of_row w _ _ _ _ _ hsj]; simpa using hu) (fun u hu => allOne_sound (env := env) h1 u (by rw [hns]; exact hu)) hbnd
  obtain ⟨_, hM'⟩ := setN_sound (hs a' c')
  rw [← hM'] at p2
  have hal : ∀ q, alive M q → alive (M' a' c') q := fun q hq => by rw [hM']; exact alive_set (by simp) hq
  obtain ⟨hg, hd, hn, hf, _⟩ := headOf_some hh
  have hdt : d < t'.size := by rw [g1]; simpa [Nat.blt_eq] using hn
  have hw := guard_sound h4 hg
  show wpList C.P ⟨all⟩ (post C FR DF k) (o :: rest) ⟨t', []⟩ w
  refine wpList_want ?_
  rw [if_pos (hw.2 trivial)]
  refine wp_value p1 ?_
  simp only [Act.put, hd]
  have h3' : LOk env (M' a' c') L t' := fun s x hx => ⟨(h3 s x hx).1, SV.ok_mono hal (h3 s x hx).2⟩
  have h4' : ROk env (M' a' c') lr t' := by rw [hM']; exact h4.set (by simp)
  refine (h a' c').to FR DF env (t'.setIfInBounds d (.slice a' (n + m) c')) w' (by simpa using g1) p2 (h3'.put (x := .v _) hdt trivial)
    (h4'.put hdt hf (fun _ => rfl) (fun hn => absurd trivial hn) rfl (.inl rfl) (fun _ => trivial)) ?_
  show DOk DF env V (M' a' c') _
  rw [hM']
  exact DOk.write hk h5.same

/-- append(s, l...): s is a row of the call's own; l lies open. -/
theorem Exec.appV (i : Nat) {sa sb : Operand} {t e sz bys n c m c2 nm : Nat} {a a2 : Option Addr} {cs news : List Value} {M' : Option Addr → Nat → List OB}
    (hh : headOf C.nt all lr L o = some ([], d)) (hc : appTy C.T o.op = some (sa, sb, t, e, sz, bys)) (ha : ev (opd L lr) [] sa = some (.v (.slice a n c))) (hb : ev (opd L lr) [] sb = some (.v (.slice a2 m c2)))
    (hi : nth M i = some (.row (.slice a n c) cs e sz)) (hrd : RdAt V a2 0 news) (h1 : ∀ u ∈ news, u.oneCell' = true) (hl : news.length = m * sz) (hnm : n + m = nm) (hs : ∀ a' c', setN M i (.row (.slice a' nm c') (cs ++ news) e sz) = some (M' a' c')) (hk : wrOk i k = true)
    (hbnd : nm * bys ≤ 140737488355328)
    (h : ∀ a' c', Exec C ⟨.ops rest all (⟨d, [], .v (.slice a' nm c'), d⟩ :: lr) :: k, (d, .v (.slice a' nm c')) :: L, M' a' c'⟩ V) : Exec C ⟨.ops (o :: rest) all lr :: k, L, M⟩ V := by
  subst hnm
  refine Exec.of fun FR DF env t' w g1 h2 h3 h4 h5 => ?_
  rw [nth_eq] at hi
  obtain ⟨b, o', rfl, hcell⟩ := hrd
  have hb' := ev_sound (opd_sound h3 h4) (G := []) trivial hb
  obtain ⟨a', c', w', p1, p2⟩ := app_core hT h2 h3 h4 hc ha hi (by rw [hb']; rfl) rfl hl (fun jj u hu => by
    rw [Addr.add_lit]; simpa using h2.holds _ _ (hcell jj u hu)) h1 hbnd
  obtain ⟨_, hM'⟩ := setN_sound (hs a' c')
  rw [← hM'] at p2
  have hal : ∀ q, alive M q → alive (M' a' c') q := fun q hq => by rw [hM']; exact alive_set (by simp) hq
  obtain ⟨hg, hd, hn, hf, _⟩ := headOf_some hh
  have hdt : d < t'.size := by rw [g1]; simpa [Nat.blt_eq] using hn
  have hw := guard_sound h4 hg
  show wpList C.P ⟨all⟩ (post C FR DF k) (o :: rest) ⟨t', []⟩ w
  refine wpList_want ?_
  rw [if_pos (hw.2 trivial)]
  refine wp_value p1 ?_
  simp only [Act.put, hd]
  have h3' : LOk env (M' a' c') L t' := fun s x hx => ⟨(h3 s x hx).1, SV.ok_mono hal (h3 s x hx).2⟩
  have h4' : ROk env (M' a' c') lr t' := by rw [hM']; exact h4.set (by simp)
  refine (h a' c').to FR DF env (t'.setIfInBounds d (.slice a' (n + m) c')) w' (by simpa using g1) p2 (h3'.put (x := .v _) hdt trivial)
    (h4'.put hdt hf (fun _ => rfl) (fun hn => absurd trivial hn) rfl (.inl rfl) (fun _ => trivial)) ?_
  show DOk DF env V (M' a' c') _
  rw [hM']
  exact DOk.write hk h5.same

/-! ### make -/

def mkTy (T : List TyD) (op : Op) : Option (Operand × Operand × Nat × Nat × Nat × Nat × List Value) :=
  match op with
  | .makeSlice t x y => match sliceTy T t with
    | some (e, sz, bys, zs) => some (x, y, t, e, sz, bys, zs)
    | none => none
  | _ => none

omit hT in
theorem reps_eq (z : List Value) : ∀ n : Nat, (List.replicate n z).flatten = (List.range (n * z.length)).map (fun i => z[i % z.length]?.getD default)
  | 0 => by simp
  | n + 1 => by
    rw [List.replicate_succ, List.flatten_cons, reps_eq z n]
    apply List.ext_getElem
    · simp [Nat.add_mul, Nat.add_comm]
    · intro i h1 h2
      simp only [List.length_append, List.length_map, List.length_range] at h1
      rw [List.getElem_append]
      split
      · rename_i hi
        simp [Nat.mod_eq_of_lt hi, hi]
      · rename_i hi
        simp only [List.getElem_map, List.getElem_range]
        rw [Nat.mod_eq_sub_mod (by omega : i ≥ z.length)]

/-- make([]T, n) or make([]T, n, c). -/
theorem Exec.mkr0 {x y : Operand} {t e sz bys n cp i : Nat} {kx ky : IntKind} {zs : List Value} {M' : Option Addr → List OB}
    (hh : headOf C.nt all lr L o = some ([], d)) (hc : mkTy C.T o.op = some (x, y, t, e, sz, bys, zs)) (ha : ev (opd L lr) [] x = some (.v (.int kx (n : Int)))) (hb : ev (opd L lr) [] y = some (.v (.int ky (cp : Int))))
    (hnc : n ≤ cp) (hbnd : bys * cp ≤ 281474976710656) (hs : ∀ a, snocN M (.row (.slice a n cp) (List.replicate n zs).flatten e sz) 0 = some (M' a, i))
    (h : ∀ a, Exec C ⟨.ops rest all (⟨d, [], .v (.slice (some a) n cp), d⟩ :: lr) :: k, (d, .v (.slice (some a) n cp)) :: L, M' (some a)⟩ V) : Exec C ⟨.ops (o :: rest) all lr :: k, L, M⟩ V := by
  refine Exec.of fun FR DF env t' w g1 h2 h3 h4 h5 => ?_
  have hop : o.op = .makeSlice t x y ∧ sliceTy C.T t = some (e, sz, bys, zs) := by
    unfold mkTy at hc
    split at hc <;> try (simp at hc; done)
    split at hc <;> try (simp at hc; done)
    rename_i ht
    simp only [Option.some.injEq, Prod.mk.injEq] at hc
    obtain ⟨rfl, rfl, rfl, rfl, rfl, rfl, rfl⟩ := hc
    exact ⟨by assumption, ht⟩
  obtain ⟨u1, u2, u3, u4, ti, z, i1, i2, i3, i4, i5, i6⟩ := sliceTy_sound hT hop.2
  have hcp : cp ≤ bys * cp := Nat.le_mul_of_pos_left _ u3
  have hm := run_make (P := C.P) w t e ti z u1 i1 i2 kx ky (n : Int) (cp : Int) (by omega) (by omega) (by rw [i4, ← Int.natCast_mul]; exact Int.ofNat_le.2 hbnd) (by omega)
  simp only [Int.toNat_natCast] at hm
  obtain ⟨hM', _⟩ := snocN_sound (hs (some ⟨w.heap.size, 0, none⟩))
  have hcells : (madeCells z.cells (cp * ti.size)).toList = (List.replicate cp zs).flatten := by
    rw [reps_eq, i3, u4]
    have hz : z.cells = ⟨zs⟩ := by apply Array.ext'; rw [i6]
    simp only [madeCells, hz, Array.toList_map, Array.toList_range]
    refine List.map_congr_left fun j _ => ?_
    simp only [List.size_toArray, u4, getElem!_def]
    have : (⟨zs⟩ : Array Value)[j % sz]? = zs[j % sz]? := by simp
    rw [this]
    cases zs[j % sz]? <;> rfl
  have hlen : (madeCells z.cells (cp * ti.size)).size = cp * sz := by simp [madeCells, i3]
  have hfl : ∀ q : Nat, (List.replicate q zs).flatten.length = q * sz := fun q => by simp [List.length_flatten, u4]
  have hsat : rowSat (w.alloc (.cells (madeCells z.cells (cp * ti.size)) e)) e sz (.slice (some ⟨w.heap.size, 0, none⟩) n cp) (List.replicate n zs).flatten := by
    refine ⟨n, hfl n, .inr ⟨w.heap.size, cp, _, rfl, Nat.zero_le _, heap_alloc_new w _, hnc, by simp only [maxLen]; omega, hlen, ?_⟩⟩
    rw [hcells]
    obtain ⟨q, rfl⟩ : ∃ q, cp = n + q := ⟨cp - n, by omega⟩
    rw [← hfl n, ← List.replicate_append_replicate, List.flatten_append]
    exact List.take_left
  have hW := h2.add (w' := w.alloc (.cells (madeCells z.cells (cp * ti.size)) e)) (o' := .row (.slice (some ⟨w.heap.size, 0, none⟩) n cp) (List.replicate n zs).flatten e sz) 0 rfl rfl rfl
    (fun kk hk => Go.RowKit.Below.heap_alloc w _ kk hk) hsat (fun p hp => by simp only [OB.own, Value.ownBlock, Option.some.injEq] at hp; omega)
  rw [← hM'] at hW
  obtain ⟨hg, hd, hn, hf, _⟩ := headOf_some hh
  have hdt : d < t'.size := by rw [g1]; simpa [Nat.blt_eq] using hn
  have hw := guard_sound h4 hg
  show wpList C.P ⟨all⟩ (post C FR DF k) (o :: rest) ⟨t', []⟩ w
  refine wpList_want ?_
  rw [if_pos (hw.2 trivial)]
  refine wp_value (v := .slice (some ⟨w.heap.size, 0, none⟩) n cp) (w' := w.alloc (.cells (madeCells z.cells (cp * ti.size)) e)) ?_ ?_
  · unfold execOp
    simp only [hop.1, ev_sound (opd_sound h3 h4) (G := []) trivial ha, ev_sound (opd_sound h3 h4) (G := []) trivial hb, den, Sem.run_bind, hm, Result.andThen_ok, Sem.run_pure]
  simp only [Act.put, hd]
  have h3' : LOk (env ++ [0]) (M' (some ⟨w.heap.size, 0, none⟩)) L t' := by rw [hM']; exact h3.mono h2.len _ _
  have h4' : ROk (env ++ [0]) (M' (some ⟨w.heap.size, 0, none⟩)) lr t' := by rw [hM']; exact h4.mono h2.len _ _
  refine (h ⟨w.heap.size, 0, none⟩).to FR DF (env ++ [0]) (t'.setIfInBounds d (.slice (some ⟨w.heap.size, 0, none⟩) n cp)) _ (by simpa using g1) hW (h3'.put (x := .v _) hdt trivial)
    (h4'.put hdt hf (fun _ => rfl) (fun hn => absurd trivial hn) rfl (.inl rfl) (fun _ => trivial)) ?_
  show DOk DF (env ++ [0]) V (M' _) _
  rw [hM']
  exact DOk.grow ⟨_, rfl⟩ (VLe.refl V) ⟨_, rfl⟩ h5.same

/-- make([]T, n) or make([]T, n, c): the sizes are numbers that are not negative. -/
theorem Exec.mkr {x y : Operand} {t e sz bys i nm : Nat} {en ec : Int} {kx ky : IntKind} {zs : List Value} {M' : Option Addr → List OB}
    (hh : headOf C.nt all lr L o = some ([], d)) (hc : mkTy C.T o.op = some (x, y, t, e, sz, bys, zs)) (ha : ev (opd L lr) [] x = some (.v (.int kx en))) (hb : ev (opd L lr) [] y = some (.v (.int ky ec)))
    (hnm : en.toNat = nm) (hnc : 0 ≤ en ∧ en ≤ ec) (hbnd : bys * ec.toNat ≤ 281474976710656) (hs : ∀ a, snocN M (.row (.slice a nm ec.toNat) (List.replicate nm zs).flatten e sz) 0 = some (M' a, i))
    (h : ∀ a, Exec C ⟨.ops rest all (⟨d, [], .v (.slice (some a) nm ec.toNat), d⟩ :: lr) :: k, (d, .v (.slice (some a) nm ec.toNat)) :: L, M' (some a)⟩ V) : Exec C ⟨.ops (o :: rest) all lr :: k, L, M⟩ V := by
  subst hnm
  have h1 : ((en.toNat : Nat) : Int) = en := Int.toNat_of_nonneg hnc.1
  have h2 : ((ec.toNat : Nat) : Int) = ec := Int.toNat_of_nonneg (by omega)
  exact Exec.mkr0 hT (kx := kx) (ky := ky) hh hc (by rw [h1]; exact ha) (by rw [h2]; exact hb) (by omega) hbnd hs h

/-- A slice literal that is appended. -/
theorem Exec.bsl {x : SV} {M' : List OB} {n0 e0 : Nat} {cs0 : List SV} (hh : headOf C.nt all lr L o = some ([], d)) (hc : bslOf C.T (opd L lr) M o.op = some (x, M', n0, cs0, e0))
    (h : Exec C ⟨.ops rest all (⟨d, [], x, d⟩ :: lr) :: k, (d, x) :: L, M'⟩ V) : Exec C ⟨.ops (o :: rest) all lr :: k, L, M⟩ V := by
  refine Exec.of fun FR DF env t' w g1 h2 h3 h4 h5 => ?_
  obtain ⟨env', w', p1, p2, p3, p4, p5, p6, p7⟩ := bslOf_sound hT h2 (opd_sound h3 h4) hc
  obtain ⟨hg, hd, hn, hf, _⟩ := headOf_some hh
  have hdt : d < t'.size := by rw [g1]; simpa [Nat.blt_eq] using hn
  have hw := guard_sound h4 hg
  show wpList C.P ⟨all⟩ (post C FR DF k) (o :: rest) ⟨t', []⟩ w
  refine wpList_want ?_
  rw [if_pos (hw.2 trivial)]
  refine wp_value p7 ?_
  simp only [Act.put, hd]
  exact h.to FR DF env' (t'.setIfInBounds d (den env' x)) w' (by simpa using g1) p3 ((p4 _ h3).put hdt p6)
    ((p5 _ h4).put hdt hf (fun _ => rfl) (fun hn => absurd trivial hn) rfl (.inl rfl) (fun _ => p6)) (DOk.grow p1 (VLe.refl V) p2 h5.same)

omit hT in
/-- A block of the call's own is laid open. -/
theorem WOk.openBlk {V0 V : View} {FR : Frm} {env : List Nat} {M : List OB} {w : World} (h : WOk V0 FR env V M w) {i ty : Nat} {cs : List SV} {vs : List Value} (hi : M[i]? = some (.blk cs ty)) (hv : vals cs = some vs) :
    ∃ V', VLe V V' ∧ RdAt V' (some ⟨envAt env i, 0, none⟩) 0 vs ∧ WOk V0 FR env V' (M.set i .unk) w := by
  have hsat := (h.sat i _ hi).1
  rw [vals_sound (env := env) hv] at hsat
  have hrow : rowSat w ty vs.length (.slice (some ⟨envAt env i, 0, none⟩) 1 1) vs := ⟨1, by simp, .inr ⟨_, 1, _, rfl, Nat.zero_le _, hsat, Nat.le_refl _, by simp [maxLen], by simp, by simp⟩⟩
  have hW := h.upd (w' := w) (o' := .row (.slice (some ⟨envAt env i, 0, none⟩) 1 1) vs ty vs.length) hi (by simp) rfl rfl rfl (fun _ _ _ => rfl) hrow (fun a ha => .inl (by
    simp only [OB.own, Value.ownBlock, Option.some.injEq] at ha ⊢
    exact ha.symm))
  obtain ⟨V', v1, v2, hW'⟩ := hW.freeze (i := i) (by rw [List.getElem?_set, if_pos rfl, if_pos (List.getElem?_eq_some_iff.1 hi).1])
  rw [List.set_set] at hW'
  refine ⟨V', v1, ?_, hW'⟩
  cases vs with
  | nil => exact ⟨_, _, rfl, fun j c hj => by simp at hj⟩
  | cons x l => exact v2 (by simp)

/-- A slice literal that is laid open at once. -/
theorem Exec.bsV {n0 e0 len cap : Nat} {M' M2 : List OB} {cs0 : List SV} {vs : List Value} (hh : headOf C.nt all lr L o = some ([], d)) (hc : bslOf C.T (opd L lr) M o.op = some (.slc n0 0 len cap, M', n0, cs0, e0))
    (hM : nth M' n0 = some (.blk cs0 e0)) (hv : vals cs0 = some vs) (hs : setN M' n0 .unk = some M2)
    (h : ∀ V' a, VLe V V' → RdAt V' (some a) 0 vs → Exec C ⟨.ops rest all (⟨d, [], .v (.slice (some a) len cap), d⟩ :: lr) :: k, (d, .v (.slice (some a) len cap)) :: L, M2⟩ V') : Exec C ⟨.ops (o :: rest) all lr :: k, L, M⟩ V := by
  refine Exec.of fun FR DF env t' w g1 h2 h3 h4 h5 => ?_
  obtain ⟨env', w', p1, p2, p3, p4, p5, p6, p7⟩ := bslOf_sound hT h2 (opd_sound h3 h4) hc
  obtain ⟨_, rfl⟩ := setN_sound hs
  rw [nth_eq] at hM
  obtain ⟨V', v1, v2, hW'⟩ := p3.openBlk hM hv
  obtain ⟨hg, hd, hn, hf, _⟩ := headOf_some hh
  have hdt : d < t'.size := by rw [g1]; simpa [Nat.blt_eq] using hn
  have hw := guard_sound h4 hg
  show wpList C.P ⟨all⟩ (post C FR DF k) (o :: rest) ⟨t', []⟩ w
  refine wpList_want ?_
  rw [if_pos (hw.2 trivial)]
  refine wp_value p7 ?_
  simp only [Act.put, hd]
  obtain ⟨r, hr⟩ := p2
  have hn0 : M.length ≤ n0 := by
    refine Nat.le_of_not_lt fun hl => ?_
    have hb : bslOf C.T (opd L lr) M o.op = some (.slc n0 0 len cap, M', n0, cs0, e0) := hc
    unfold bslOf at hb
    repeat' (split at hb <;> try (simp at hb; done))
    rename_i hsn
    simp only [Option.some.injEq, Prod.mk.injEq] at hb
    obtain ⟨hb1, hb2, hb3, _⟩ := hb
    have h9 : n0 = 0 + M.length := by
      have := (snocN_sound hsn).2
      rw [hb3] at this
      exact this
    omega
  have hset : ∃ r', M'.set n0 OB.unk = M ++ r' := by
    refine ⟨r.set (n0 - M.length) .unk, ?_⟩
    rw [hr, List.set_append, if_neg (Nat.not_lt.2 hn0)]
  exact (h V' ⟨envAt env' n0, 0, none⟩ v1 v2).to FR DF env' (t'.setIfInBounds d (.slice (some ⟨envAt env' n0, 0, none⟩) len cap)) w' (by simpa using g1) hW' (((p4 _ h3).set (by simp)).put (x := .v _) hdt trivial)
    (((p5 _ h4).set (by simp)).put hdt hf (fun _ => rfl) (fun hn => absurd trivial hn) rfl (.inl rfl) (fun _ => trivial)) (DOk.grow p1 v1 hset h5.same)

/-! ### Stores into a row -/

def stOf (T : List TyD) (od : Look) (op : Op) : Option (Option Addr × Nat × List SV × Nat) :=
  match op with
  | .store t x y => match nth T t with
    | some dd => match dd.size with
      | 0 => none
      | sz + 1 => match ev od [] x, ev od [] y with
        | some (.el a off), some v => match cellsV v with
          | some vs => match Nat.beq vs.length (sz + 1), allOne vs with
            | true, true => some (a, off, vs, sz + 1)
            | _, _ => none
          | none => none
        | some (.v (.pointer a)), some v => match cellsV v with
          | some vs => match Nat.beq vs.length (sz + 1), allOne vs with
            | true, true => some (a, 0, vs, sz + 1)
            | _, _ => none
          | none => none
        | _, _ => none
    | none => none
  | _ => none

omit hT in
theorem stOf_sound {env : List Nat} {t' : Array Value} {od : Look} (hO : Tells env M t' od) {a : Option Addr} {off sz : Nat} {vs : List SV} (h : stOf C.T od o.op = some (a, off, vs, sz)) {b o' : Nat} (ha : a = some ⟨b, o', none⟩) :
    vs.length = sz ∧ 0 < sz ∧ ∃ ty x y dd, o.op = .store ty x y ∧ nth C.T ty = some dd ∧ dd.size = sz ∧ (⟨t', []⟩ : Act).eval x = .pointer (some ⟨b, o' + off, none⟩) ∧ ((⟨t', []⟩ : Act).eval y).cells = ⟨vs.map (den env)⟩ ∧ allOne vs = true := by
  subst ha
  unfold stOf at h
  split at h <;> try (simp at h; done)
  rename_i ty x y hop
  split at h <;> try (simp at h; done)
  rename_i dd hd
  split at h <;> try (simp at h; done)
  rename_i sz' hsz
  split at h <;> try (simp at h; done)
  · rename_i a' off' v hx hy
    split at h <;> try (simp at h; done)
    rename_i vs' hvs
    split at h <;> try (simp at h; done)
    rename_i hlen hone
    simp only [Option.some.injEq, Prod.mk.injEq] at h
    obtain ⟨rfl, rfl, rfl, rfl⟩ := h
    refine ⟨beq_nat hlen, by omega, ty, x, y, dd, hop, hd, hsz, ?_, ?_, hone⟩
    · rw [ev_sound hO (G := []) trivial hx]; rfl
    · rw [ev_sound hO (G := []) trivial hy]; exact (cellsV_sound (env := env) (ev_ok hO (G := []) trivial hy) hvs).1
  · rename_i a' v hx hy
    split at h <;> try (simp at h; done)
    rename_i vs' hvs
    split at h <;> try (simp at h; done)
    rename_i hlen hone
    simp only [Option.some.injEq, Prod.mk.injEq] at h
    obtain ⟨rfl, rfl, rfl, rfl⟩ := h
    refine ⟨beq_nat hlen, by omega, ty, x, y, dd, hop, hd, hsz, ?_, ?_, hone⟩
    · rw [ev_sound hO (G := []) trivial hx]; rfl
    · rw [ev_sound hO (G := []) trivial hy]; exact (cellsV_sound (env := env) (ev_ok hO (G := []) trivial hy) hvs).1

/-- A store into a row of the call's own. -/
theorem Exec.stR (i : Nat) {a : Option Addr} {off n c e sz ssz : Nat} {vs : List SV} {cs nv cs' : List Value} {M' : List OB} (hg : guardC all lr o.guard = some []) (hd : o.dst = none) (hc : stOf C.T (opd L lr) o.op = some (a, off, vs, ssz))
    (hv : vals vs = some nv) (hi : nth M i = some (.row (.slice a n c) cs e sz)) (ha : ∃ b o, a = some ⟨b, o, none⟩) (hoff : off + ssz ≤ cs.length) (hcs : cs.take off ++ nv ++ cs.drop (off + ssz) = cs')
    (hs : setN M i (.row (.slice a n c) cs' e sz) = some M') (hk : wrOk i k = true)
    (h : Exec C ⟨.ops rest all lr :: k, L, M'⟩ V) : Exec C ⟨.ops (o :: rest) all lr :: k, L, M⟩ V := by
  obtain ⟨b, o', rfl⟩ := ha
  obtain ⟨_, rfl⟩ := setN_sound hs
  rw [nth_eq] at hi
  refine Exec.of fun FR DF env t' w g1 h2 h3 h4 h5 => ?_
  obtain ⟨q1, q2, ty, x, y, dd, hop, hd', hsz, hx, hy, hone⟩   := stOf_sound (C := C) (opd_sound h3 h4) hc rfl
  have hsat := h2.sat i _ hi
  obtain ⟨r1, r2, r3, r4⟩ := rowSat_some hsat
  have ho : o' = 0 := by
    rcases r3 with ⟨h, _⟩ | ⟨g, h⟩
    · simp at h
    · simp at h; exact h.2
  subst ho
  rcases r4.2 with ⟨hv', _⟩ | ⟨g, cap, cur, hv', k1, k2, k3, k4, k5, k6⟩
  · simp at hv'
  simp only [Value.slice.injEq, Option.some.injEq, Addr.mk.injEq, true_and, and_true] at hv'
  obtain ⟨rfl, rfl⟩ := hv'
  have hnv : nv.length = ssz := by
    have := congrArg List.length (vals_sound (env := env) hv)
    simp at this
    omega
  have hcl : cs.length ≤ cur.size := by rw [r1, k5]; exact Nat.mul_le_mul_right _ k3
  have hst := run_storeCells_at (P := C.P) b off e nv 0 cur w k2 (by omega) (by rw [← vals_sound (env := env) hv]; exact allOne_sound hone)
  simp only [Nat.add_zero] at hst
  have hw := guard_sound h4 hg
  show wpList C.P ⟨all⟩ (post C FR DF k) (o :: rest) ⟨t', []⟩ w
  refine wpList_want ?_
  rw [if_pos (hw.2 trivial)]
  refine wp_skip' (w' := w.setRow b (cur.toList.take off ++ nv ++ cur.toList.drop (off + nv.length)).toArray) ?_ ?_
  · unfold execOp
    have hcells : ((⟨t', []⟩ : Act).eval y).cells = ⟨nv⟩ := by rw [hy, vals_sound (env := env) hv]
    simp only [hop, hx, Instr.storeAt, Instr.sureAddr, storeVar, Sem.run_bind, Sem.run_pure, Result.andThen_ok, t_size hT w hd' (by omega), hcells, Nat.zero_add]
    rw [if_neg (by simp [hnv, hsz])]
    simp only [Result.andThen_ok, hst]
  · simp only [Act.put, hd]
    have hnew : rowSat (w.setRow b (cur.toList.take off ++ nv ++ cur.toList.drop (off + nv.length)).toArray) e sz (.slice (some ⟨b, 0, none⟩) n c) cs' := by
      refine ⟨n, ?_, .inr ⟨b, c, _, rfl, Nat.zero_le _, setRow_heap w b cur _ e _ k2, k3, k4, ?_, ?_⟩⟩
      · rw [← hcs, ← r1]; simp only [List.length_append, List.length_take, List.length_drop, hnv]; omega
      · simp only [List.size_toArray, List.length_append, List.length_take, List.length_drop, Array.length_toList, hnv]; omega
      · rw [← hcs, ← k6, ← r1]
        simp only [hnv]
        rw [List.take_append, List.take_append, List.take_take, List.take_take]
        simp only [List.length_append, List.length_take, Array.length_toList, hnv]
        rw [Nat.min_eq_left (by omega : off ≤ cs.length), Nat.min_eq_right (by omega : off ≤ cs.length), List.drop_take, List.take_of_length_le (by omega : nv.length ≤ _)]
        congr 2
        rw [Nat.min_eq_left (by omega)]
    have hW := h2.upd (w' := w.setRow b (cur.toList.take off ++ nv ++ cur.toList.drop (off + nv.length)).toArray) (o' := .row (.slice (some ⟨b, 0, none⟩) n c) cs' e sz) hi (by simp) rfl rfl rfl
      (fun kk hk hn => setRow_other w b kk _ (fun he => hn (by simp [OB.own, Value.ownBlock, he]))) hnew (fun p hp => .inl hp)
    exact h.to FR DF env t' _ g1 hW (h3.set (by simp)) (h4.set (by simp)) (DOk.write hk h5.same)

end

/-! ### What a row says of itself -/

theorem Exec.rowI (i : Nat) {C : Ctx} {k : List Kt} {L : Fr} {M : List OB} {V : View} {n c e sz : Nat} {a : Option Addr} {cs : List Value} (hi : nth M i = some (.row (.slice a n c) cs e sz))
    (h : cs.length = n * sz → (0 < n → ∃ b o, a = some ⟨b, o, none⟩) → n ≤ c → Exec C ⟨k, L, M⟩ V) : Exec C ⟨k, L, M⟩ V := by
  refine Exec.of fun FR DF env t' w g1 h2 h3 h4 h5 => ?_
  have hi' := hi
  rw [nth_eq] at hi'
  obtain ⟨r1, r2, r3, r4⟩ := rowSat_some (h2.sat i _ hi')
  exact (h r1 (fun h0 => by
    rcases r3 with ⟨_, h, _⟩ | ⟨g, h⟩
    · omega
    · exact ⟨g, 0, h⟩) r2).to FR DF env t' w g1 h2 h3 h4 h5

end Go.Proofs.Ytkbldnpifmjipaa
