/-
  A FRAMEWORK FOR PROOFS ABOUT CALLS (part e): bytes that lie open become a string; append to a full slice that lies open.
  Conditions: the table of types is the program's (TOk).
-/
import Derived.Test.YtonijgmopcmldaaGreatMd
set_option linter.all false
namespace Go.Proofs.YtonijgmopcmldaaGreat
def bytesS (l : List Int) : Str := l.map fun n => UInt8.ofNat n.toNat
theorem foldl_push (l : List Int) : ∀ (r : ByteArray), l.foldl (fun (r : ByteArray) n => r.push (UInt8.ofNat n.toNat)) r = ⟨⟨r.data.toList ++ bytesS l⟩⟩ := by
  induction l with
  | nil => intro r; simp [bytesS]
  | cons n l ih =>
    intro r
    rw [List.foldl_cons, ih]
    simp [bytesS, ByteArray.push]
section
variable {C : Ctx} (hT : TOk C.P C.T) {o : Oper} {rest all : List Oper} {lr : List REnt} {k : List Kt} {L : Fr} {M : List OB} {V : View} {d : Nat}
include hT
theorem Exec.b2sV {src dst : Nat} {x : Operand} {dd : TyD} {e cap n : Nat} {a : Option Addr} {l : List Int} (hh : headOf C.nt all lr L o = some ([], d)) (ho : o.op = .convert src dst x) (ht : bytesTy C.T src = some e)
    (hd : nth C.T dst = some dd) (hds : Nat.blt 0 dd.size = true) (hdu : dd.und = .str) (ha : ev (opd L lr) [] x = some (.v (.slice a n cap))) (hs : SlAt (cInt .u8) V a cap l) (hn : n = l.length)
    (h : Exec C ⟨.ops rest all (⟨d, [], .v (.string ⟨⟨bytesS l⟩⟩), d⟩ :: lr) :: k, (d, .v (.string ⟨⟨bytesS l⟩⟩)) :: L, M⟩ V) : Exec C ⟨.ops (o :: rest) all lr :: k, L, M⟩ V := by
  subst hn
  refine Exec.yields (x := .v (.string ⟨⟨bytesS l⟩⟩)) (G := []) hh (fun FR env t' w h2 h3 h4 hG => ⟨trivial, fun _ _ hK => ?_⟩) h
  obtain ⟨u1, u2, _⟩ := bytesTy_sound hT ht
  have hds' : dd.size ≠ 0 := by have : 0 < dd.size := by simpa [Nat.blt_eq] using hds
                                omega
  have u3 := t_str hT hd hds' hdu
  have hb : (convert src dst (.slice a l.length cap)).run C.P w = .ok (.string ⟨⟨bytesS l⟩⟩) w := by
    rw [run_convert_bytes_string w src dst e a l.length cap u1 u2 u3]
    cases a with
    | none =>
      have hl : l = [] := by
        cases l with
        | nil => rfl
        | cons y l =>
          obtain ⟨cs, _, b, o', h1, _⟩ := hs.2 0 y rfl
          simp at h1
      subst hl
      simp only [Conv.bytesToString]
      rfl
    | some a =>
      have hl := run_loadCells_list (P := C.P) w a (l.map (Value.int .u8)) (fun j v hj => by
        rw [List.getElem?_map] at hj
        cases hx : l[j]? with
        | none => rw [hx] at hj; simp at hj
        | some y =>
          rw [hx] at hj
          simp only [Option.map_some, Option.some.injEq] at hj
          subst hj
          obtain ⟨cs, h1, b, o', h5, h6⟩ := hs.2 j y hx
          have h1 : cs = [.int .u8 y] := h1
          subst h1
          simp only [Option.some.injEq] at h5
          subst h5
          have := h2.holds _ _ (h6 0 _ rfl)
          rw [Addr.add_lit]
          simpa [cInt] using this)
      simp only [List.length_map] at hl
      have := run_bytesToString (P := C.P) w a l.length cap l hl
      rw [this, foldl_push]
      rfl
  refine wp_value ?_ (hK w h2)
  unfold execOp
  simp only [ho, ev_sound (opd_sound h3 h4) hG ha, den, Sem.run_bind, hb, Result.andThen_ok, Sem.run_pure]
theorem Exec.appO {α : Type} [Inhabited α] {cd : Cd α} (j : Nat) {sa sb : Operand} {t e sz bys n c0 m c2 ty nm cap i : Nat} {a a0 : Option Addr} {l : List α} {news : List Value} {ns : List SV} {M' : List Value → Option Addr → Nat → List OB}
    (hh : headOf C.nt all lr L o = some ([], d)) (hc : appTy C.T o.op = some (sa, sb, t, e, sz, bys)) (ha : ev (opd L lr) [] sa = some (.v (.slice a0 n c0))) (hb : ev (opd L lr) [] sb = some (.slc j 0 m c2))
    (hj : nth M j = some (.blk ns ty)) (hv : vals ns = some news) (hl : news.length = m * sz) (hnm : n + m = nm) (hs : ∀ cs a' c', snocN M (.row (.slice a' nm c') (cs ++ news) e sz) 0 = some (M' cs a' c', i))
    (hbnd : nm * bys ≤ 140737488355328) (hsl : SlAt cd V a cap l) (haa : a0 = slAd a n 0 sz) (hsz : sz = cd.sz) (hn : n = l.length) (hc0 : n = c0) (hm : 0 < m)
    (h : ∀ cs a' c', RowRep cd V l cs → Exec C ⟨.ops rest all (⟨d, [], .v (.slice a' nm c'), d⟩ :: lr) :: k, (d, .v (.slice a' nm c')) :: L, M' cs a' c'⟩ V) : Exec C ⟨.ops (o :: rest) all lr :: k, L, M⟩ V := by
  subst hnm; subst hc0; subst haa; subst hsz
  refine Exec.of fun FR DF env t' w g1 h2 h3 h4 h5 => ?_
  obtain ⟨cs, hrep, hrd⟩ := hsl.rowAll
  have hcl : cs.length = n * cd.sz := by rw [RowRep.len hrep, hn]
  obtain ⟨hop, zs, hts⟩ := appTy_op hc
  obtain ⟨u1, u2, u3, _, ti, z, i1, i2, i3, i4, i5, _⟩ := sliceTy_sound hT hts
  rw [nth_eq] at hj
  obtain ⟨hj1, hj2⟩ := h2.sat j _ hj
  have hle : n + m ≤ maxLen := by
    have : n + m ≤ (n + m) * bys := Nat.le_mul_of_pos_right _ u3
    simp only [maxLen]
    omega
  have hden : ns.map (den env) = news := vals_sound (env := env) hv
  rw [hden] at hj1
  have hnews : ∀ q u, news[q]? = some u → w.cell? ((⟨envAt env j, 0, none⟩ : Addr).add q) = some u := fun q u hu => by
    rw [Addr.add_lit, Nat.zero_add]
    simp [World.cell?, hj1, hu]
  have hcase : (slAd a n 0 cd.sz = none ∧ n = 0 ∧ n = 0) ∨ ∃ b, slAd a n 0 cd.sz = some b ∧ ∀ q u, cs[q]? = some u → w.cell? (b.add q) = some u := by
    by_cases h0 : l = []
    · subst h0
      have hn0 : n = 0 := hn
      have hcs : cs = [] := List.eq_nil_of_length_eq_zero (by rw [hcl, hn0]; simp)
      subst hn0; subst hcs
      cases a with
      | none => left; simp [slAd]
      | some b => right; exact ⟨b, by simp [slAd], fun q u hu => by simp at hu⟩
    · right
      obtain ⟨b, o', e1, e2⟩ := hrd h0
      have hne : n ≠ 0 := by rw [hn]; intro h; exact h0 (List.eq_nil_of_length_eq_zero h)
      subst e1
      refine ⟨⟨b, o', none⟩, by simp [slAd, Addr.add_lit], fun q u hu => ?_⟩
      rw [Addr.add_lit]
      have := h2.holds _ _ (e2 q u hu)
      simpa using this
  obtain ⟨cap', w', q1, q2, q3⟩ := run_append_new (P := C.P) w t o.type e ti z cd.sz bys u1 i1 i2 i3 i4 i5 (slAd a n 0 cd.sz) n n cs hcl hcase ⟨envAt env j, 0, none⟩ m c2 news hl hnews hm (by omega) hle hbnd
  obtain ⟨hM', _⟩ := snocN_sound (hs cs (some ⟨w.heap.size, 0, none⟩) cap')
  have hsat : rowSat w' e cd.sz (.slice (some ⟨w.heap.size, 0, none⟩) (n + m) cap') (cs ++ news) := by
    refine ⟨n + m, q2.1, ?_⟩
    rcases q2.2 with h | ⟨g, cap'', cur, p1, p2, p3⟩
    · exact .inl h
    · exact .inr ⟨g, cap'', cur, p1, Nat.zero_le _, p3⟩
  have hW := h2.add (w' := w') (o' := .row (.slice (some ⟨w.heap.size, 0, none⟩) (n + m) cap') (cs ++ news) e cd.sz) 0 q3.os q3.tape q3.output
    (fun kk hk => q3.block kk hk (by simp)) hsat (fun p hp => by simp only [OB.own, Value.ownBlock, Option.map_some, Option.some.injEq] at hp; omega)
  rw [← hM'] at hW
  obtain ⟨hg, hd, hn', hf, _⟩ := headOf_some hh
  have hdt : d < t'.size := by rw [g1]; simpa [Nat.blt_eq] using hn'
  have hw := guard_sound h4 hg
  show wpList C.P ⟨all⟩ (post C FR DF k) (o :: rest) ⟨t', []⟩ w
  refine wpList_want ?_
  rw [if_pos (hw.2 trivial)]
  refine wp_value (v := .slice (some ⟨w.heap.size, 0, none⟩) (n + m) cap') (w' := w') ?_ ?_
  · unfold execOp
    have e1 := ev_sound (opd_sound h3 h4) (G := []) trivial ha
    have e2 := ev_sound (opd_sound h3 h4) (G := []) trivial hb
    simp only [den] at e1 e2
    simp only [hop, resolve, List.map_toArray, List.map_cons, List.map_nil, e1, e2, Sem.run_bind, Sem.run_pure, Result.andThen_ok, invoke, builtin, q1]
  simp only [Act.put, hd]
  have h3' : LOk (env ++ [0]) (M' cs (some ⟨w.heap.size, 0, none⟩) cap') L t' := by rw [hM']; exact h3.mono h2.len _ _
  have h4' : ROk (env ++ [0]) (M' cs (some ⟨w.heap.size, 0, none⟩) cap') lr t' := by rw [hM']; exact h4.mono h2.len _ _
  refine (h cs (some ⟨w.heap.size, 0, none⟩) cap' hrep).to FR DF (env ++ [0]) (t'.setIfInBounds d (.slice (some ⟨w.heap.size, 0, none⟩) (n + m) cap')) _ (by simpa using g1) hW (h3'.put (x := .v _) hdt trivial)
    (h4'.put hdt hf (fun _ => rfl) (fun hn => absurd trivial hn) rfl (.inl rfl) (fun _ => trivial)) ?_
  show DOk DF (env ++ [0]) V (M' _ _ _) _
  rw [hM']
  exact DOk.grow ⟨_, rfl⟩ (VLe.refl V) ⟨_, rfl⟩ h5.same
theorem Exec.ldP (i : Nat) {G : List (Nat × Bool)} {q off n c e sz g : Nat} {dd : TyD} {cs l : List Value} {x : Value}
    (hh : headOf C.nt all lr L o = some (G, d)) (hc : ldOf C.T (opd L lr) G o.op = some (some ⟨g, q, none⟩, off, dd)) (hi : nth M i = some (.row (.slice (some ⟨g, 0, none⟩) n c) cs e sz)) (hl : CellsAt cs (q + off) l) (hsz : l.length = dd.size) (hx : cellsVal dd.und.agg l = x)
    (h : Exec C ⟨.ops rest all (⟨d, G, .v x, d⟩ :: lr) :: k, nextL G d (.v x) L, M⟩ V) : Exec C ⟨.ops (o :: rest) all lr :: k, L, M⟩ V := by
  refine Exec.yields (x := .v x) hh (fun FR env t w h2 h3 h4 hG => ⟨trivial, fun K Q hK => ?_⟩) h
  rw [nth_eq] at hi
  have := rowSat_cell (h2.sat i _ hi) rfl hl
  exact wp_value (ld_runC hT (opd_sound h3 h4) hG hc rfl (fun j v hv => by have := this j v hv; simpa [Nat.add_assoc] using this) hsz hx) (hK w h2)
theorem Exec.stP (i : Nat) {q off n c e sz ssz g : Nat} {vs : List SV} {cs nv cs' : List Value} {M' : List OB} (hg : guardC all lr o.guard = some []) (hd : o.dst = none) (hc : stOf C.T (opd L lr) o.op = some (some ⟨g, q, none⟩, off, vs, ssz))
    (hv : vals vs = some nv) (hi : nth M i = some (.row (.slice (some ⟨g, 0, none⟩) n c) cs e sz)) (hoff : q + off + ssz ≤ cs.length) (hcs : cs.take (q + off) ++ nv ++ cs.drop (q + off + ssz) = cs')
    (hs : setN M i (.row (.slice (some ⟨g, 0, none⟩) n c) cs' e sz) = some M') (hk : wrOk i k = true)
    (h : Exec C ⟨.ops rest all lr :: k, L, M'⟩ V) : Exec C ⟨.ops (o :: rest) all lr :: k, L, M⟩ V := by
  obtain ⟨off', ho'⟩ : ∃ z, z = q + off := ⟨_, rfl⟩
  obtain ⟨_, rfl⟩ := setN_sound hs
  rw [nth_eq] at hi
  refine Exec.of fun FR DF env t' w g1 h2 h3 h4 h5 => ?_
  obtain ⟨q1, q2, ty, x, y, dd, hop, hd', hsz, hx, hy, hone⟩   := stOf_sound (C := C) (opd_sound h3 h4) hc rfl
  have hsat := h2.sat i _ hi
  obtain ⟨r1, r2, r3, r4⟩ := rowSat_some hsat
  rw [← ho'] at hoff hcs
  rcases r4.2 with ⟨hv', _⟩ | ⟨b, cap, cur, hv', k1, k2, k3, k4, k5, k6⟩
  · simp at hv'
  simp only [Value.slice.injEq, Option.some.injEq, Addr.mk.injEq, true_and, and_true] at hv'
  obtain ⟨rfl, rfl⟩ := hv'
  have hnv : nv.length = ssz := by
    have := congrArg List.length (vals_sound (env := env) hv)
    simp at this
    omega
  have hcl : cs.length ≤ cur.size := by rw [r1, k5]; exact Nat.mul_le_mul_right _ k3
  have hst := run_storeCells_at (P := C.P) g off' e nv 0 cur w k2 (by omega) (by rw [← vals_sound (env := env) hv]; exact allOne_sound hone)
  simp only [Nat.add_zero] at hst
  have hw := guard_sound h4 hg
  show wpList C.P ⟨all⟩ (post C FR DF k) (o :: rest) ⟨t', []⟩ w
  refine wpList_want ?_
  rw [if_pos (hw.2 trivial)]
  refine wp_skip' (w' := w.setRow g (cur.toList.take off' ++ nv ++ cur.toList.drop (off' + nv.length)).toArray) ?_ ?_
  · unfold execOp
    have hcells : ((⟨t', []⟩ : Act).eval y).cells = ⟨nv⟩ := by rw [hy, vals_sound (env := env) hv]
    simp only [hop, hx, ← ho', Instr.storeAt, Instr.sureAddr, storeVar, Sem.run_bind, Sem.run_pure, Result.andThen_ok, t_size hT w hd' (by omega), hcells, Nat.zero_add]
    rw [if_neg (by simp [hnv, hsz])]
    simp only [Result.andThen_ok, hst]
  · simp only [Act.put, hd]
    have hnew : rowSat (w.setRow g (cur.toList.take off' ++ nv ++ cur.toList.drop (off' + nv.length)).toArray) e sz (.slice (some ⟨g, 0, none⟩) n c) cs' := by
      refine ⟨n, ?_, .inr ⟨g, c, _, rfl, Nat.zero_le _, setRow_heap w g cur _ e _ k2, k3, k4, ?_, ?_⟩⟩
      · rw [← hcs, ← r1]; simp only [List.length_append, List.length_take, List.length_drop, hnv]; omega
      · simp only [List.size_toArray, List.length_append, List.length_take, List.length_drop, Array.length_toList, hnv]; omega
      · rw [← hcs, ← k6, ← r1]
        simp only [hnv]
        rw [List.take_append, List.take_append, List.take_take, List.take_take]
        simp only [List.length_append, List.length_take, Array.length_toList, hnv]
        rw [Nat.min_eq_left (by omega : off' ≤ cs.length), Nat.min_eq_right (by omega : off' ≤ cs.length), List.drop_take, List.take_of_length_le (by omega : nv.length ≤ _)]
        congr 2
        rw [Nat.min_eq_left (by omega)]
    have hW := h2.upd (w' := w.setRow g (cur.toList.take off' ++ nv ++ cur.toList.drop (off' + nv.length)).toArray) (o' := .row (.slice (some ⟨g, 0, none⟩) n c) cs' e sz) hi (by simp) rfl rfl rfl
      (fun kk hk hn => setRow_other w g kk _ (fun he => hn (by simp [OB.own, Value.ownBlock, he]))) hnew (fun p hp => .inl hp)
    exact h.to FR DF env t' _ g1 hW (h3.set (by simp)) (h4.set (by simp)) (DOk.write hk h5.same)
end
end Go.Proofs.YtonijgmopcmldaaGreat
