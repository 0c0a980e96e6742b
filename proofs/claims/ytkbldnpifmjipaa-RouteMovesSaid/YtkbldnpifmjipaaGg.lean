/-
  A FRAMEWORK FOR PROOFS ABOUT CALLS (part g of the second row): copies, appends within a row, appended zeros; calls of functions without a body.
  Conditions: the table of types is the program's (TOk).
-/
import Derived.Test.YtkbldnpifmjipaaGf
set_option linter.all false
namespace Go.Proofs.Ytkbldnpifmjipaa

def cpTy (T : List TyD) (op : Op) : Option (Operand × Operand × Nat × Nat × Nat × Nat) :=
  match op with
  | .call ⟨.builtin .copy, ⟨[sa, sb]⟩, ⟨[t, t']⟩⟩ => match sliceTy T t with
    | some (e, sz, _, _) => some (sa, sb, t, t', e, sz)
    | none => none
  | _ => none

theorem cpTy_op {T : List TyD} {op : Op} {sa sb : Operand} {t t' e sz : Nat} (h : cpTy T op = some (sa, sb, t, t', e, sz)) :
    op = .call ⟨.builtin .copy, #[sa, sb], #[t, t']⟩ ∧ ∃ bys zs, sliceTy T t = some (e, sz, bys, zs) := by
  unfold cpTy at h
  split at h <;> try (simp at h; done)
  split at h <;> try (simp at h; done)
  rename_i e' sz' bys zs ht
  simp only [Option.some.injEq, Prod.mk.injEq] at h
  obtain ⟨rfl, rfl, rfl, rfl, rfl, rfl⟩ := h
  exact ⟨rfl, bys, zs, ht⟩

section
variable {C : Ctx} (hT : TOk C.P C.T) {o : Oper} {rest all : List Oper} {lr : List REnt} {k : List Kt} {L : Fr} {M : List OB} {V : View} {d : Nat}
include hT

/-- copy(d, s): d lies in a row of the call's own. -/
theorem Exec.cpR (i : Nat) {sa sb : Operand} {t t' e sz g oo dLen dCap sLen sCap n c m : Nat} {ad a2 : Option Addr} {cs news cs' : List Value} {M' : List OB}
    (hh : headOf C.nt all lr L o = some ([], d)) (hc : cpTy C.T o.op = some (sa, sb, t, t', e, sz)) (ha : ev (opd L lr) [] sa = some (.v (.slice ad dLen dCap))) (had : ad = some ⟨g, oo, none⟩) (hb : ev (opd L lr) [] sb = some (.v (.slice a2 sLen sCap)))
    (hi : nth M i = some (.row (.slice (some ⟨g, 0, none⟩) n c) cs e sz)) (hsrc : Src M V a2 news) (hm : Nat.min sLen dLen = m) (hl : news.length = m * sz) (hfit : oo + news.length ≤ cs.length) (h1 : ∀ u ∈ news, u.oneCell' = true)
    (hcs : cs.take oo ++ news ++ cs.drop (oo + news.length) = cs') (hs : setN M i (.row (.slice (some ⟨g, 0, none⟩) n c) cs' e sz) = some M') (hk : wrOk i k = true)
    (h : Exec C ⟨.ops rest all (⟨d, [], .v (.int .i64 m), d⟩ :: lr) :: k, (d, .v (.int .i64 m)) :: L, M'⟩ V) : Exec C ⟨.ops (o :: rest) all lr :: k, L, M⟩ V := by
  refine Exec.rowS (σ := Unit) i (fun _ => .int .i64 m) (fun _ => .row (.slice (some ⟨g, 0, none⟩) n c) cs' e sz) (fun _ => M') hh (fun _ => by simp) (fun _ => hs) hk (fun FR env t0 w h2 h3 h4 => ?_) (fun _ => h)
  rw [nth_eq] at hi
  obtain ⟨hop, bys, zs, hts⟩ := cpTy_op hc
  obtain ⟨u1, u2, u3, _, ti, z, i1, i2, i3, i4, i5, _⟩ := sliceTy_sound hT hts
  have hsat : rowSat w e sz (.slice (some ⟨g, 0, none⟩) n c) cs := h2.sat i _ hi
  obtain ⟨cur, k1, k2, k3⟩ := rowSat_put (nv := news) hsat hfit
  rw [hcs] at k3
  subst had
  have hrun := run_copyK (P := C.P) w t t' o.type e sz g oo dLen dCap a2 sLen sCap cur e news u1 ⟨ti, i1, i3⟩ k1 (by rw [hm]; exact hl) (hsrc.cells h2) k2 h1
  refine ⟨(), w.setRow g (cur.toList.take oo ++ news ++ cur.toList.drop (oo + news.length)).toArray, h2.upd hi (by simp) rfl rfl rfl (fun kk _ hn => setRow_other w g kk _ (fun he => hn (by simp [OB.own, Value.ownBlock, he]))) k3 (fun p hp => .inl hp), ?_⟩
  have e1 := ev_sound (opd_sound h3 h4) (G := []) trivial ha
  have e2 := ev_sound (opd_sound h3 h4) (G := []) trivial hb
  simp only [den] at e1 e2
  unfold execOp
  simp only [hop, resolve, List.map_toArray, List.map_cons, List.map_nil, e1, e2, Sem.run_bind, Sem.run_pure, Result.andThen_ok, invoke, builtin, hrun, hm]
  rfl

/-- clear(s): s is what lies behind a row's elements. -/
theorem Exec.clrR (i : Nat) {sa : Operand} {t e sz bys g oo m c2 n c : Nat} {zs : List Value} {ad : Option Addr} {cs : List Value}
    (hg : guardC all lr o.guard = some []) (hd : o.dst = none) (hop : o.op = .call ⟨.builtin .clear, #[sa], #[t]⟩) (ht : sliceTy C.T t = some (e, sz, bys, zs)) (hz1 : ∀ u ∈ zs, u.oneCell' = true) (ha : ev (opd L lr) [] sa = some (.v (.slice ad m c2))) (had : ad = some ⟨g, oo, none⟩)
    (hi : nth M i = some (.row (.slice (some ⟨g, 0, none⟩) n c) cs e sz)) (hlo : n * sz ≤ oo) (hhi : oo + m * sz ≤ c * sz) (hs : setN M i (.row (.slice (some ⟨g, 0, none⟩) n c) cs e sz) = some M) (hk : wrOk i k = true)
    (h : Exec C ⟨.ops rest all lr :: k, L, M⟩ V) : Exec C ⟨.ops (o :: rest) all lr :: k, L, M⟩ V := by
  refine Exec.rowN (v := .tuple #[]) i hg hd (b := .row (.slice (some ⟨g, 0, none⟩) n c) cs e sz) (by simp) hs hk (fun FR env t0 w h2 h3 h4 => ?_) h
  rw [nth_eq] at hi
  obtain ⟨u1, u2, u3, u4, ti, z, i1, i2, i3, i4, i5, i6⟩ := sliceTy_sound hT ht
  have hsat : rowSat w e sz (.slice (some ⟨g, 0, none⟩) n c) cs := h2.sat i _ hi
  obtain ⟨cur, k2, k3, k4, k5, r1, k6⟩ := rowSat_cur hsat
  subst had
  obtain ⟨cur', c1, c2', c3⟩ := run_clearK (P := C.P) w t e o.type z u1 i1 i2 g oo m c2 cur e k2 (by rw [i5, k5]; exact hhi) (by rw [i6]; exact hz1)
  refine ⟨w.setRow g cur', h2.upd hi (by simp) rfl rfl rfl (fun kk _ hn => setRow_other w g kk _ (fun he => hn (by simp [OB.own, Value.ownBlock, he]))) (rowSat_mk (setRow_heap w g cur _ e _ k2) k3 k4 (by rw [c2', k5]) r1 ?_) (fun p hp => .inl hp), ?_⟩
  · rw [← k6, ← Nat.min_eq_left hlo, ← List.take_take, c3, List.take_take]
  · have e1 := ev_sound (opd_sound h3 h4) (G := []) trivial ha
    simp only [den] at e1
    unfold execOp
    simp only [hop, resolve, List.map_toArray, List.map_cons, List.map_nil, e1, Sem.run_bind, Sem.run_pure, Result.andThen_ok, invoke, builtin, c1]

/-- append(s[:n'], l...) where all of it finds room among the row's elements. -/
theorem Exec.apIn (i : Nat) {sa sb : Operand} {t e sz bys g n' n c m c2 : Nat} {a1 a2 : Option Addr} {ad : Addr} {cs news cs' : List Value} {M' : List OB}
    (hh : headOf C.nt all lr L o = some ([], d)) (hc : appTy C.T o.op = some (sa, sb, t, e, sz, bys)) (ha : ev (opd L lr) [] sa = some (.v (.slice a1 n' c))) (ha1 : a1 = some ⟨g, 0, none⟩) (hb : ev (opd L lr) [] sb = some (.v (.slice a2 m c2))) (ha2 : a2 = some ad)
    (hi : nth M i = some (.row (.slice (some ⟨g, 0, none⟩) n c) cs e sz)) (hsrc : Src M V a2 news) (hl : news.length = m * sz) (hroom : n' + m ≤ n) (h1 : ∀ u ∈ news, u.oneCell' = true) (hone : ∀ u ∈ cs, u.oneCell' = true)
    (hcs : cs.take (n' * sz) ++ news ++ cs.drop (n' * sz + news.length) = cs') (hs : setN M i (.row (.slice (some ⟨g, 0, none⟩) n c) cs' e sz) = some M') (hk : wrOk i k = true)
    (h : Exec C ⟨.ops rest all (⟨d, [], .v (.slice (some ⟨g, 0, none⟩) (n' + m) c), d⟩ :: lr) :: k, (d, .v (.slice (some ⟨g, 0, none⟩) (n' + m) c)) :: L, M'⟩ V) : Exec C ⟨.ops (o :: rest) all lr :: k, L, M⟩ V := by
  refine Exec.rowS (σ := Unit) i (fun _ => .slice (some ⟨g, 0, none⟩) (n' + m) c) (fun _ => .row (.slice (some ⟨g, 0, none⟩) n c) cs' e sz) (fun _ => M') hh (fun _ => by simp) (fun _ => hs) hk (fun FR env t0 w h2 h3 h4 => ?_) (fun _ => h)
  rw [nth_eq] at hi
  obtain ⟨hop, zs, hts⟩ := appTy_op hc
  obtain ⟨u1, u2, u3, _, ti, z, i1, i2, i3, i4, i5, _⟩ := sliceTy_sound hT hts
  have hsat : rowSat w e sz (.slice (some ⟨g, 0, none⟩) n c) cs := h2.sat i _ hi
  obtain ⟨cur0, _, hnc, _, _, r1, _⟩ := rowSat_cur hsat
  have hfit : n' * sz + news.length ≤ cs.length := by rw [hl, ← Nat.add_mul, r1]; exact Nat.mul_le_mul_right _ hroom
  obtain ⟨cur, k1, k2, k3⟩ := rowSat_put (nv := news) hsat hfit
  rw [hcs] at k3
  subst ha1; subst ha2
  have hnews : ∀ j u, news[j]? = some u → w.cell? (ad.add j) = some u := by
    rcases hsrc.cells h2 with h0 | ⟨ad', he, hcl⟩
    · subst h0; simp
    · simp only [Option.some.injEq] at he; subst he; exact hcl
  have hrun := run_append_room (P := C.P) w t o.type e ti u1 i1 g n' c cur k1 ad m c2 news (by rw [i3]; exact hl) hnews h1 (by omega) (by rw [i3]; exact k2)
  rw [i3] at hrun
  refine ⟨(), w.setRow g (cur.toList.take (n' * sz) ++ news ++ cur.toList.drop (n' * sz + news.length)).toArray, h2.upd hi (by simp) rfl rfl rfl (fun kk _ hn => setRow_other w g kk _ (fun he => hn (by simp [OB.own, Value.ownBlock, he]))) k3 (fun p hp => .inl hp), ?_⟩
  have e1 := ev_sound (opd_sound h3 h4) (G := []) trivial ha
  have e2 := ev_sound (opd_sound h3 h4) (G := []) trivial hb
  simp only [den] at e1 e2
  unfold execOp
  simp only [hop, resolve, List.map_toArray, List.map_cons, List.map_nil, e1, e2, Sem.run_bind, Sem.run_pure, Result.andThen_ok, invoke, builtin, hrun]

/-- append(s, l...): s is a row of the call's own, l another one, or open. -/
theorem Exec.appJ (i : Nat) {sa sb : Operand} {t e sz bys n c m c2 nm : Nat} {a a2 : Option Addr} {ad : Addr} {cs news : List Value} {M' : Option Addr × Nat → List OB}
    (hh : headOf C.nt all lr L o = some ([], d)) (hc : appTy C.T o.op = some (sa, sb, t, e, sz, bys)) (ha : ev (opd L lr) [] sa = some (.v (.slice a n c))) (hb : ev (opd L lr) [] sb = some (.v (.slice a2 m c2))) (ha2 : a2 = some ad)
    (hi : nth M i = some (.row (.slice a n c) cs e sz)) (hsrc : Src M V a2 news) (h1 : ∀ u ∈ news, u.oneCell' = true) (hl : news.length = m * sz) (hnm : n + m = nm) (hs : ∀ q : Option Addr × Nat, setN M i (.row (.slice q.1 nm q.2) (cs ++ news) e sz) = some (M' q)) (hk : wrOk i k = true)
    (hbnd : nm * bys ≤ 140737488355328)
    (h : ∀ a' c', Exec C ⟨.ops rest all (⟨d, [], .v (.slice a' nm c'), d⟩ :: lr) :: k, (d, .v (.slice a' nm c')) :: L, M' (a', c')⟩ V) : Exec C ⟨.ops (o :: rest) all lr :: k, L, M⟩ V := by
  subst hnm
  refine Exec.rowS i (fun q : Option Addr × Nat => .slice q.1 (n + m) q.2) (fun q => .row (.slice q.1 (n + m) q.2) (cs ++ news) e sz) M' hh (fun _ => by simp) hs hk (fun FR env t' w h2 h3 h4 => ?_) (fun q => h q.1 q.2)
  rw [nth_eq] at hi
  subst ha2
  have hnews : ∀ j u, news[j]? = some u → w.cell? (ad.add j) = some u := by
    rcases hsrc.cells h2 with h0 | ⟨ad', he, hcl⟩
    · subst h0; simp
    · simp only [Option.some.injEq] at he; subst he; exact hcl
  have hb' := ev_sound (opd_sound h3 h4) (G := []) trivial hb
  obtain ⟨a', c', w', p1, p2⟩ := app_core hT h2 h3 h4 hc ha hi (by rw [hb']; rfl) rfl hl hnews h1 hbnd
  exact ⟨(a', c'), w', p2, p1⟩

/-- append(s[:n'], make([]T, q)...) where there is no room for it: a new row. -/
theorem Exec.apZ (i : Nat) {sa sb : Operand} {t tn e sz bys g n' n c j q : Nat} {kn kq : IntKind} {td : TyD} {zs : List Value} {a1 : Option Addr} {cs : List Value} {M' : Addr × Nat → List OB}
    (hh : headOf C.nt all lr L o = some ([], d)) (hop : o.op = .call ⟨.builtin .append, #[sa, sb], #[t, tn]⟩) (ht : sliceTy C.T t = some (e, sz, bys, zs)) (htn : nth C.T tn = some td) (htd : td.und = .int kn) (hts : Nat.blt 0 td.size = true)
    (ha : ev (opd L lr) [] sa = some (.v (.slice a1 n' c))) (ha1 : a1 = some ⟨g, 0, none⟩) {x : Int} (hb : ev (opd L lr) [] sb = some (.v (.int kq x))) (hx : x = (q : Int)) (hq : 0 < q)
    (hi : nth M i = some (.row (.slice (some ⟨g, 0, none⟩) n c) cs e sz)) (hn : n' ≤ n) (hroom : c < n' + q) (hbnd : (n' + q) * bys ≤ 140737488355328) {nq : Nat} (hnq : n' + q = nq)
    (hs : ∀ p : Addr × Nat, snocN M (.row (.slice (some p.1) nq p.2) (cs.take (n' * sz) ++ (List.replicate q zs).flatten) e sz) 0 = some (M' p, j))
    (h : ∀ b c', Exec C ⟨.ops rest all (⟨d, [], .v (.slice (some ⟨b, 0, none⟩) nq c'), d⟩ :: lr) :: k, (d, .v (.slice (some ⟨b, 0, none⟩) nq c')) :: L, M' (⟨b, 0, none⟩, c')⟩ V) : Exec C ⟨.ops (o :: rest) all lr :: k, L, M⟩ V := by
  subst hnq
  refine Exec.memS (σ := Nat × Nat) (fun p => .v (.slice (some ⟨p.1, 0, none⟩) (n' + q) p.2)) (fun p => M' (⟨p.1, 0, none⟩, p.2)) hh (fun FR env t0 w h2 h3 h4 => ?_) (fun p => .inl ⟨_, (snocN_sound (hs (⟨p.1, 0, none⟩, p.2))).1⟩) (fun p => h p.1 p.2)
  rw [nth_eq] at hi
  obtain ⟨u1, u2, u3, u4, ti, z, i1, i2, i3, i4, i5, i6⟩ := sliceTy_sound hT ht
  have hsat : rowSat w e sz (.slice (some ⟨g, 0, none⟩) n c) cs := h2.sat i _ hi
  obtain ⟨cur, k2, k3, k4, k5, r1, k6⟩ := rowSat_cur hsat
  subst ha1; subst hx
  have hle : n' + q ≤ maxLen := by
    have : n' + q ≤ (n' + q) * bys := Nat.le_mul_of_pos_right _ u3
    simp only [maxLen]
    omega
  have htk : (cs.take (n' * sz)).length = n' * sz := by
    have := Nat.mul_le_mul_right sz hn
    simp only [List.length_take]; omega
  have hold : (Builtin.firstCells ti.size n' (.slice (some ⟨g, 0, none⟩) n' c)).run C.P w.drew = .ok (cs.take (n' * sz)).toArray w.drew := by
    refine run_firstCells_some w.drew ti.size n' ⟨g, 0, none⟩ n' c _ (by rw [i3]; exact htk) (fun jj u hu => ?_)
    rw [Addr.add_lit]
    have hu' : cs[jj]? = some u := by
      rw [List.getElem?_take] at hu
      split at hu
      · exact hu
      · simp at hu
    have := rowSat_cell (off := 0) (l := cs) hsat rfl (fun j v hv => by simpa using hv) jj u hu'
    simpa using this
  have hb48 : q * ti.bytes ≤ 281474976710656 := by
    rw [i4]
    have : q * bys ≤ (n' + q) * bys := Nat.mul_le_mul_right _ (by omega)
    omega
  have hrun := Lib.run_append_grow_zeros (P := C.P) w t tn o.type e ti z kq kn u1 (t_int hT htn (by simpa [Nat.blt_eq, Nat.pos_iff_ne_zero] using hts) htd) i1 i2 (some ⟨g, 0, none⟩) n' c (cs.take (n' * sz)) hold q hq (by omega) hroom
    (by simp only [maxLen] at hle; omega) hb48 (growslice_fits (by omega) (by rw [i4]; exact hbnd))
  have hz : z.cells = ⟨zs⟩ := by apply Array.ext'; rw [i6]
  have hzc : ∀ m : Nat, (Builtin.zeroCells z.cells m).toList = (List.replicate m zs).flatten := by
    intro m
    rw [reps_eq]
    simp only [Builtin.zeroCells, hz, Array.toList_map, Array.toList_range, List.size_toArray]
    refine List.map_congr_left fun jj _ => ?_
    rw [getElem!_def]
    have : (⟨zs⟩ : Array Value)[jj % zs.length]? = zs[jj % zs.length]? := by simp
    rw [this]
    cases zs[jj % zs.length]? <;> rfl
  have hfl : ∀ m : Nat, (List.replicate m zs).flatten.length = m * sz := fun m => by simp [List.length_flatten, u4]
  have hcap : n' + q ≤ grownCap w (n' + q) c e := grownCap_ge w _ _ _
  have hcapm := grownCap_le_maxLen w (n' + q) c e hle
  have hM' := (snocN_sound (hs (⟨w.heap.size, 0, none⟩, grownCap w (n' + q) c e))).1
  have hsz2 : (w.drew).heap.size = w.heap.size := rfl
  let cells : Array Value := (cs.take (n' * sz)).toArray ++ Builtin.zeroCells z.cells q ++ Builtin.zeroCells z.cells (grownCap w (n' + q) c e - (n' + q))
  have hcl : cells.toList = cs.take (n' * sz) ++ (List.replicate q zs).flatten ++ (List.replicate (grownCap w (n' + q) c e - (n' + q)) zs).flatten := by
    simp only [cells, Array.toList_append, hzc]
  have hlen0 : (cs.take (n' * sz) ++ (List.replicate q zs).flatten).length = (n' + q) * sz := by rw [List.length_append, htk, hfl, Nat.add_mul]
  have hnew : rowSat (w.drew.alloc (.cells cells e)) e sz (.slice (some ⟨w.heap.size, 0, none⟩) (n' + q) (grownCap w (n' + q) c e)) (cs.take (n' * sz) ++ (List.replicate q zs).flatten) := by
    refine rowSat_mk (heap_alloc_new w.drew _) hcap hcapm ?_ hlen0 ?_
    · rw [← Array.length_toList, hcl, List.length_append, hlen0, hfl, ← Nat.add_mul]; congr 1; omega
    · rw [hcl, ← hlen0]; exact List.take_left
  have hW := h2.add (w' := w.drew.alloc (.cells cells e)) (o' := .row (.slice (some ⟨w.heap.size, 0, none⟩) (n' + q) (grownCap w (n' + q) c e)) (cs.take (n' * sz) ++ (List.replicate q zs).flatten) e sz) 0 rfl rfl rfl
    (fun kk hk => Go.RowKit.Below.heap_alloc w.drew _ kk hk) hnew (fun p hp => by simp only [OB.own, Value.ownBlock, Option.some.injEq] at hp; omega)
  rw [← hM'] at hW
  refine ⟨(w.heap.size, grownCap w (n' + q) c e), env ++ [0], _, ⟨_, rfl⟩, hW, fun L hL => by rw [hM']; exact hL.mono h2.len _ _, fun lr hl => by rw [hM']; exact hl.mono h2.len _ _, trivial, ?_⟩
  have e1 := ev_sound (opd_sound h3 h4) (G := []) trivial ha
  have e2 := ev_sound (opd_sound h3 h4) (G := []) trivial hb
  simp only [den] at e1 e2
  unfold execOp
  simp only [hop, resolve, List.map_toArray, List.map_cons, List.map_nil, e1, e2, Sem.run_bind, Sem.run_pure, Result.andThen_ok, invoke, builtin, hrun]
  rfl

omit hT in
/-- A call of a function without a body. -/
theorem callE_run {P : Program} {env : List Nat} {t : Array Value} {od : Look} (hO : Tells env M t od) {o : Oper} {f : Nat} {args : List Value} (h : callOf od [] o.op = some (f, args)) {fn : Func} {e : Array Value → Sem Value}
    (hf : P.funcs[f]? = some fn) (hname : (fn.name == "runtime.NumGoroutine") = false) (hb : fn.body.isNone = true) (hn : Extern.findNext fn = none) (he : Extern.find fn = some e) {w w' : World} {v : Value} (hr : (e ⟨args⟩).run P w = .ok v w') :
    (execOp (⟨t, []⟩ : Act).eval o).run P w = .ok (.value v) w' := by
  unfold callOf at h
  split at h <;> try (simp at h; done)
  rename_i fx as tys hop
  split at h <;> try (simp at h; done)
  rename_i f' fi ca hfx
  split at h <;> try (simp at h; done)
  rename_i args' has
  split at h <;> try (simp at h; done)
  rename_i a1 ha1
  split at h <;> try (simp at h; done)
  rename_i full hfull
  simp only [Option.some.injEq, Prod.mk.injEq] at h
  obtain ⟨rfl, rfl⟩ := h
  have e1 := ev_sound hO (G := []) trivial hfx
  have e2 := evs_sound hO (G := []) trivial has
  have e3 := appV_sound ha1
  have e4 := appV_sound hfull
  have hc := run_callFunc_extern hf hname hb hn he ⟨full⟩ w
  rw [hr] at hc
  simp only [Result.andThen_ok] at hc
  unfold execOp
  have harr : (⟨fi⟩ : Array Value) ++ (⟨as⟩ : Array Operand).map (⟨t, []⟩ : Act).eval ++ (⟨ca⟩ : Array Value) = ⟨full⟩ := by
    apply Array.ext'
    simp [e4, e3, ← e2]
  simp only [hop, resolve, e1, den, Deferred.ofValue, Sem.run_bind, Sem.run_pure, Result.andThen_ok, invoke, harr, hc]

omit hT in
/-- slices.overlaps of two rows of the call's own. -/
theorem Exec.ovl (i j : Nat) {f t tb e ez sz' n c la ca n2 c2 lb cb g g2 oo : Nat} {a b : Option Addr} {cs ds : List Value} {fn : Func} {args : List Value} (hh : headOf C.nt all lr L o = some ([], d)) (hc : callOf (opd L lr) [] o.op = some (f, args)) (hargs : args = [.slice a la ca, .slice b lb cb])
    (hf : C.P.funcs[f]? = some fn) (hname : (fn.name == "runtime.NumGoroutine") = false) (hb : fn.body.isNone = true) (hn : Extern.findNext fn = none) (he : Extern.find fn = some (Extern.SlicesOverlaps.overlaps #[t, t] #[tb]))
    (hu : C.P.underlying t = some (.slice e)) (hz : ∀ w, (Go.sizeOf e).run C.P w = .ok ez w) (ha : a = some ⟨g2, 0, none⟩) (hbb : b = some ⟨g, oo, none⟩) (hij : i ≠ j) (hc0 : 0 < c * sz')
    (hi : nth M i = some (.row (.slice (some ⟨g, 0, none⟩) n c) cs e sz')) (hj : nth M j = some (.row (.slice (some ⟨g2, 0, none⟩) n2 c2) ds e sz'))
    (h : Exec C ⟨.ops rest all (⟨d, [], .v (.bool false), d⟩ :: lr) :: k, (d, .v (.bool false)) :: L, M⟩ V) : Exec C ⟨.ops (o :: rest) all lr :: k, L, M⟩ V := by
  refine Exec.yields (G := []) (x := .v (.bool false)) hh (fun FR env t0 w h2 h3 h4 _ => ⟨trivial, fun K Q hK => wp_value (callE_run (opd_sound h3 h4) hc hf hname hb hn he (v := .bool false) (w' := w) ?_) (hK w h2)⟩) h
  rw [nth_eq] at hi hj
  have hsi : rowSat w e sz' (.slice (some ⟨g, 0, none⟩) n c) cs := h2.sat i _ hi
  have hsj : rowSat w e sz' (.slice (some ⟨g2, 0, none⟩) n2 c2) ds := h2.sat j _ hj
  obtain ⟨cur, k2, k3, k4, k5, r1, k6⟩ := rowSat_cur hsi
  obtain ⟨cur2, l2, l3, l4, l5, l1, l6⟩ := rowSat_cur hsj
  have hne : g2 ≠ g := fun hg => h2.apart i j _ _ ⟨g, 0, none⟩ hij hi hj rfl (by simp [OB.own, Value.ownBlock, hg])
  subst hargs; subst ha; subst hbb
  exact Lib.run_overlaps_apart w t tb e hu ez hz ⟨g2, 0, none⟩ ⟨g, oo, none⟩ la ca lb cb hne e e cur2.size cur.size (by simp [World.shape?, l2]) (by simp [World.shape?, k2]) (by rw [k5]; omega) (by simp [World.frozen?, l2]) (by simp [World.frozen?, l2])

/-- s[lo:hi:mx], whatever s holds. -/
theorem Exec.slx3 {t : Nat} {x : Operand} {lo : Option Operand} {hi mx : Operand} {e sz bys n cp : Nat} {zs : List Value} {a : Option Addr} {kh km : IntKind} {p : Option Int} {hh' m : Int} (hh : headOf C.nt all lr L o = some ([], d)) (hop : o.op = .slice t x lo (some hi) (some mx)) (ht : sliceTy C.T t = some (e, sz, bys, zs))
    (hx : ev (opd L lr) [] x = some (.v (.slice a n cp))) (hl : bdOf (opd L lr) [] lo = some p) (hhi : ev (opd L lr) [] hi = some (.v (.int kh hh'))) (hm : ev (opd L lr) [] mx = some (.v (.int km m)))
    (hb : 0 ≤ loN p ∧ loN p ≤ hh' ∧ hh' ≤ m ∧ m ≤ cp) {l' n' c' : Nat} (e1 : (loN p).toNat = l') (e2 : hh'.toNat - l' = n') (e3 : m.toNat - l' = c')
    (h : Exec C ⟨.ops rest all (⟨d, [], .v (.slice (slAd a m.toNat l' sz) n' c'), d⟩ :: lr) :: k, (d, .v (.slice (slAd a m.toNat l' sz) n' c')) :: L, M⟩ V) : Exec C ⟨.ops (o :: rest) all lr :: k, L, M⟩ V := by
  subst e1; subst e2; subst e3
  refine Exec.yieldsP (G := []) (x := .v (.slice (slAd a m.toNat (loN p).toNat sz) (hh'.toNat - (loN p).toNat) (m.toNat - (loN p).toNat))) hh (fun env t0 w h3 h4 _ hG => ⟨trivial, ?_⟩) h
  obtain ⟨u1, u2, u3, u4, ti, z, i1, i2, i3, i4, i5, i6⟩ := sliceTy_sound hT ht
  have g0 := ev_sound (opd_sound h3 h4) (G := []) trivial hx
  have g3 := ev_sound (opd_sound h3 h4) (G := []) trivial hhi
  have g4 := ev_sound (opd_sound h3 h4) (G := []) trivial hm
  obtain ⟨v1, g1, g2⟩ := bdOf_sound (opd_sound h3 h4) (G := []) trivial hl
  simp only [den] at g0 g3 g4
  have hsz : (sizeOf e).run C.P w = .ok sz w := by simp [sizeOf, typeInfo, i1, i3]
  have hel : C.P.elem t = e := by simp [Program.elem, u1]
  have ht' : C.P.underlying t = some (.slice (C.P.elem t)) := by rw [hel]; exact u1
  rw [← hel] at hsz
  unfold execOp
  simp only [hop, g0, den, g1, Option.map_some, g3, g4, Sem.run_bind]
  rw [run_sliceAt_slice (h := ht')]
  obtain ⟨b1, b2, b3, b4⟩ := hb
  rcases g2 with ⟨rfl, rfl⟩ | ⟨i, kk, rfl, rfl⟩ <;> simp only [loN] at b1 b2 b3 b4 ⊢
  · rw [run_slice_hm (ht := ht') (h0 := by omega) (h2 := b3) (h3 := b4)]
    simp [hsz, sliced, slAd]
  · rw [run_slice_lhm (ht := ht') (h0 := b1) (h1 := b2) (h2 := b3) (h3 := b4)]
    simp [hsz, sliced, slAd]

omit hT in
theorem SlAt.part3 {α : Type} [Inhabited α] {c : Cd α} {V : View} {a : Option Addr} {cap : Nat} {l : List α} (h : SlAt c V a cap l) (lo hi m : Nat) (h1 : lo ≤ hi) (h2 : hi ≤ m) (h3 : m ≤ l.length) :
    SlAt c V (slAd a m lo c.sz) (m - lo) ((l.take hi).drop lo) := by
  by_cases hm : m = lo
  · have : (l.take hi).drop lo = [] := by simp; omega
    rw [this]; exact SlAt.nil
  · have hp := h.part lo hi h1 (by omega)
    have hc := h.1
    rw [if_neg (by omega)] at hp
    simp only [slAd, if_neg hm]
    exact ⟨by simp only [List.length_drop, List.length_take]; omega, hp.2⟩

/-- l[lo:hi:mx] of a slice that lies open. -/
theorem Exec.slv3 {α : Type} [Inhabited α] {c : Cd α} {l : List α} {t : Nat} {x : Operand} {lo : Option Operand} {hi mx : Operand} {e sz bys n cp : Nat} {zs : List Value} {a : Option Addr} {kh km : IntKind} {p : Option Int} {lo' hh' m : Int} (hh : headOf C.nt all lr L o = some ([], d)) (hop : o.op = .slice t x lo (some hi) (some mx)) (ht : sliceTy C.T t = some (e, sz, bys, zs))
    (hx : ev (opd L lr) [] x = some (.v (.slice a n cp))) (hl : bdOf (opd L lr) [] lo = some p) (hhi : ev (opd L lr) [] hi = some (.v (.int kh hh'))) (hm : ev (opd L lr) [] mx = some (.v (.int km m))) (hlo : loN p = lo') (hs : SlAt c V a cp l) (hsz : sz = c.sz)
    (hb : 0 ≤ lo' ∧ lo' ≤ hh' ∧ hh' ≤ m ∧ m ≤ (l.length : Int))
    (h : ∀ a' k', SlAt c V a' k' ((l.take hh'.toNat).drop lo'.toNat) → Exec C ⟨.ops rest all (⟨d, [], .v (.slice a' ((l.take hh'.toNat).drop lo'.toNat).length k'), d⟩ :: lr) :: k, (d, .v (.slice a' ((l.take hh'.toNat).drop lo'.toNat).length k')) :: L, M⟩ V) : Exec C ⟨.ops (o :: rest) all lr :: k, L, M⟩ V := by
  subst hlo; subst hsz
  have hcap := hs.1
  have hlen : ((l.take hh'.toNat).drop (loN p).toNat).length = hh'.toNat - (loN p).toNat := by
    simp only [List.length_drop, List.length_take]
    omega
  have hx' := h _ _ (hs.part3 (loN p).toNat hh'.toNat m.toNat (by omega) (by omega) (by omega))
  rw [hlen] at hx'
  exact Exec.slx3 hT hh hop ht hx hl hhi hm ⟨hb.1, hb.2.1, hb.2.2.1, by omega⟩ rfl rfl rfl hx'

end
end Go.Proofs.Ytkbldnpifmjipaa
