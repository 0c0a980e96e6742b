/-
  A FRAMEWORK FOR PROOFS ABOUT CALLS (part f of the second row): slices of rows, copies, appends within a row: what the library's Clone, Insert and Delete do.
  Conditions: the table of types is the program's (TOk).
-/
import Derived.Test.YtkbldnpifmjipaaGe
import Derived.Lib.SliceRun
import Derived.Lib.Overlaps
import Derived.Lib.AppendZerosOnto
set_option linter.all false
namespace Go.Proofs.Ytkbldnpifmjipaa

section
variable {C : Ctx}

/-- One operation that makes or turns memory of the call's own: what it yields is known but for a part. -/
theorem Exec.memS {σ : Type} (x : σ → SV) (M' : σ → List OB) {o : Oper} {rest all : List Oper} {lr : List REnt} {k : List Kt} {L : Fr} {M : List OB} {V : View} {d : Nat} (hh : headOf C.nt all lr L o = some ([], d))
    (hy : ∀ FR env t w, WOk C.V0 FR env V M w → LOk env M L t → ROk env M lr t → ∃ q env' w', (∃ r, env' = env ++ r) ∧ WOk C.V0 FR env' V (M' q) w' ∧ (∀ L, LOk env M L t → LOk env' (M' q) L t) ∧
      (∀ lr, ROk env M lr t → ROk env' (M' q) lr t) ∧ (x q).ok (M' q) ∧ (execOp (⟨t, []⟩ : Act).eval o).run C.P w = .ok (.value (den env' (x q))) w')
    (hD : ∀ q, (∃ r, M' q = M ++ r) ∨ ∃ i b, M' q = M.set i b ∧ wrOk i k = true)
    (h : ∀ q, Exec C ⟨.ops rest all (⟨d, [], x q, d⟩ :: lr) :: k, (d, x q) :: L, M' q⟩ V) : Exec C ⟨.ops (o :: rest) all lr :: k, L, M⟩ V := by
  refine Exec.of fun FR DF env t w h1 h2 h3 h4 h5 => ?_
  obtain ⟨hg, hd, hn, hf, _⟩ := headOf_some hh
  have hdt : d < t.size := by rw [h1]; simpa [Nat.blt_eq] using hn
  obtain ⟨q, env', w', j1, k1, k2, k3, k4, k5⟩ := hy FR env t w h2 h3 h4
  have hw := guard_sound h4 hg
  show wpList C.P ⟨all⟩ (post C FR DF k) (o :: rest) ⟨t, []⟩ w
  refine wpList_want ?_
  rw [if_pos (hw.2 trivial)]
  refine wp_value k5 ?_
  simp only [Act.put, hd]
  refine (h q).to FR DF env' (t.setIfInBounds d (den env' (x q))) w' (by simpa using h1) k1 ((k2 _ h3).put hdt k4)
    ((k3 _ h4).put hdt hf (fun _ => rfl) (fun hn => absurd trivial hn) rfl (.inl rfl) (fun _ => k4)) ?_
  show DOk DF env' V (M' q) _
  rcases hD q with hD | ⟨i, b, hm, hk⟩
  · exact DOk.grow j1 (VLe.refl V) hD h5.same
  · rw [hm]; exact DOk.grow (M := M.set i b) j1 (VLe.refl V) ⟨[], by simp⟩ (DOk.write (M := M) hk h5.same)

/-- A row of the call's own turns; the operation's value is a plain one. -/
theorem Exec.rowS {σ : Type} (i : Nat) (v : σ → Value) (b : σ → OB) (M' : σ → List OB) {o : Oper} {rest all : List Oper} {lr : List REnt} {k : List Kt} {L : Fr} {M : List OB} {V : View} {d : Nat} (hh : headOf C.nt all lr L o = some ([], d))
    (hb : ∀ q, b q ≠ .gone) (hs : ∀ q, setN M i (b q) = some (M' q)) (hk : wrOk i k = true)
    (hy : ∀ FR env t w, WOk C.V0 FR env V M w → LOk env M L t → ROk env M lr t → ∃ q w', WOk C.V0 FR env V (M.set i (b q)) w' ∧ (execOp (⟨t, []⟩ : Act).eval o).run C.P w = .ok (.value (v q)) w')
    (h : ∀ q, Exec C ⟨.ops rest all (⟨d, [], .v (v q), d⟩ :: lr) :: k, (d, .v (v q)) :: L, M' q⟩ V) : Exec C ⟨.ops (o :: rest) all lr :: k, L, M⟩ V := by
  refine Exec.memS (fun q => .v (v q)) M' hh (fun FR env t w h2 h3 h4 => ?_) (fun q => .inr ⟨i, b q, (setN_sound (hs q)).2, hk⟩) h
  obtain ⟨q, w', g1, g2⟩ := hy FR env t w h2 h3 h4
  have hM' := (setN_sound (hs q)).2
  have hal : ∀ j, alive M j → alive (M' q) j := fun j hj => by rw [hM']; exact alive_set (hb q) hj
  exact ⟨q, env, w', ⟨[], by simp⟩, by rw [hM']; exact g1, fun L hL => hL.alive hal, fun lr hl => hl.alive hal, trivial, g2⟩

/-- The same where nothing is kept of the value. -/
theorem Exec.rowN (i : Nat) {v : Value} {b : OB} {M' : List OB} {o : Oper} {rest all : List Oper} {lr : List REnt} {k : List Kt} {L : Fr} {M : List OB} {V : View} (hg : guardC all lr o.guard = some []) (hd : o.dst = none)
    (hb : b ≠ .gone) (hs : setN M i b = some M') (hk : wrOk i k = true)
    (hy : ∀ FR env t w, WOk C.V0 FR env V M w → LOk env M L t → ROk env M lr t → ∃ w', WOk C.V0 FR env V (M.set i b) w' ∧ (execOp (⟨t, []⟩ : Act).eval o).run C.P w = .ok (.value v) w')
    (h : Exec C ⟨.ops rest all lr :: k, L, M'⟩ V) : Exec C ⟨.ops (o :: rest) all lr :: k, L, M⟩ V := by
  obtain ⟨_, rfl⟩ := setN_sound hs
  refine Exec.of fun FR DF env t w h1 h2 h3 h4 h5 => ?_
  obtain ⟨w', g1, g2⟩ := hy FR env t w h2 h3 h4
  have hw := guard_sound h4 hg
  show wpList C.P ⟨all⟩ (post C FR DF k) (o :: rest) ⟨t, []⟩ w
  refine wpList_want ?_
  rw [if_pos (hw.2 trivial)]
  refine wp_value g2 ?_
  simp only [Act.put, hd]
  exact h.to FR DF env t w' h1 g1 (h3.set hb) (h4.set hb) (DOk.write hk h5.same)

/-- A row's first element's address; what its length and room are. -/
theorem Exec.rowA (i : Nat) {k : List Kt} {L : Fr} {M : List OB} {V : View} {n c e sz : Nat} {a : Option Addr} {cs : List Value} (hi : nth M i = some (.row (.slice a n c) cs e sz))
    (h : cs.length = n * sz → n ≤ c → c ≤ maxLen → (a = none → n = 0 ∧ c = 0) → (∀ p, a = some p → ∃ g, p = ⟨g, 0, none⟩) → Exec C ⟨k, L, M⟩ V) : Exec C ⟨k, L, M⟩ V := by
  refine Exec.of fun FR DF env t w h1 h2 h3 h4 h5 => ?_
  have hi' := hi
  rw [nth_eq] at hi'
  have hsat := h2.sat i _ hi'
  obtain ⟨r1, r2, r3, r4⟩ := rowSat_some hsat
  refine (h r1 r2 ?_ ?_ ?_).to FR DF env t w h1 h2 h3 h4 h5
  · rcases r4.2 with ⟨hv, _⟩ | ⟨g, cap, cur, hv, _, _, _, k4, _⟩
    · simp only [Value.slice.injEq] at hv; rw [hv.2.2]; exact Nat.zero_le _
    · simp only [Value.slice.injEq] at hv; rw [hv.2.2]; exact k4
  · intro ha
    rcases r3 with ⟨_, h⟩ | ⟨g, h⟩
    · exact h
    · rw [h] at ha; simp at ha
  · intro p hp
    rcases r3 with ⟨h, _⟩ | ⟨g, h⟩
    · rw [h] at hp; simp at hp
    · rw [h] at hp; simp only [Option.some.injEq] at hp; exact ⟨g, hp.symm⟩

theorem rowSat_cur {w : World} {e sz b n c : Nat} {cs : List Value} (h : rowSat w e sz (.slice (some ⟨b, 0, none⟩) n c) cs) :
    ∃ cur, w.heap[b]? = some (.cells cur e (0, 0)) ∧ n ≤ c ∧ c ≤ maxLen ∧ cur.size = c * sz ∧ cs.length = n * sz ∧ cur.toList.take (n * sz) = cs := by
  obtain ⟨r1, r2, r3, r4⟩ := rowSat_some h
  rcases r4.2 with ⟨hv, _⟩ | ⟨g, cap, cur, hv, k1, k2, k3, k4, k5, k6⟩
  · simp at hv
  simp only [Value.slice.injEq, Option.some.injEq, Addr.mk.injEq, true_and, and_true] at hv
  obtain ⟨rfl, rfl⟩ := hv
  exact ⟨cur, k2, k3, k4, k5, r1, k6⟩

theorem rowSat_mk {w : World} {e sz b n c : Nat} {cs : List Value} {cur : Array Value} (h1 : w.heap[b]? = some (.cells cur e (0, 0))) (h2 : n ≤ c) (h3 : c ≤ maxLen) (h4 : cur.size = c * sz) (h5 : cs.length = n * sz) (h6 : cur.toList.take (n * sz) = cs) :
    rowSat w e sz (.slice (some ⟨b, 0, none⟩) n c) cs := ⟨n, h5, .inr ⟨b, c, cur, rfl, Nat.zero_le _, h1, h2, h3, h4, h6⟩⟩

theorem put_take {cur cs nv : List Value} {m off : Nat} (hc : cur.take m = cs) (hm : cs.length = m) (hoff : off + nv.length ≤ m) (hl : m ≤ cur.length) :
    (cur.take off ++ nv ++ cur.drop (off + nv.length)).take m = cs.take off ++ nv ++ cs.drop (off + nv.length) := by
  subst hc
  rw [List.take_append, List.take_append, List.take_take, List.take_take]
  simp only [List.length_append, List.length_take]
  rw [Nat.min_eq_left (by omega : off ≤ m), Nat.min_eq_right (by omega : off ≤ m), List.drop_take, List.take_of_length_le (by omega : nv.length ≤ _)]
  congr 2
  rw [Nat.min_eq_left (by omega)]

/-- These cells are written into a row. -/
theorem rowSat_put {w : World} {e sz b n c off : Nat} {cs nv : List Value} (h : rowSat w e sz (.slice (some ⟨b, 0, none⟩) n c) cs) (hoff : off + nv.length ≤ cs.length) :
    ∃ cur, w.heap[b]? = some (.cells cur e (0, 0)) ∧ off + nv.length ≤ cur.size ∧
      rowSat (w.setRow b (cur.toList.take off ++ nv ++ cur.toList.drop (off + nv.length)).toArray) e sz (.slice (some ⟨b, 0, none⟩) n c) (cs.take off ++ nv ++ cs.drop (off + nv.length)) := by
  obtain ⟨cur, k2, k3, k4, k5, r1, k6⟩ := rowSat_cur h
  have hcl : cs.length ≤ cur.size := by rw [r1, k5]; exact Nat.mul_le_mul_right _ k3
  refine ⟨cur, k2, by omega, rowSat_mk (setRow_heap w b cur _ e _ k2) k3 k4 ?_ ?_ ?_⟩
  · simp only [List.size_toArray, List.length_append, List.length_take, List.length_drop, Array.length_toList]; omega
  · simp only [List.length_append, List.length_take, List.length_drop]; omega
  · simp only
    exact put_take (m := n * sz) k6 r1 (by omega) (by rw [← r1]; simpa using hcl)

/-- A row of which less is told. -/
theorem rowSat_tr {w : World} {e sz n n' c : Nat} {a : Option Addr} {cs : List Value} (h : rowSat w e sz (.slice a n c) cs) (hn : n' ≤ n) : rowSat w e sz (.slice a n' c) (cs.take (n' * sz)) := by
  obtain ⟨r1, r2, r3, r4⟩ := rowSat_some h
  rcases r3 with ⟨rfl, rfl, rfl⟩ | ⟨g, rfl⟩
  · obtain rfl : n' = 0 := by omega
    simp only [Nat.zero_mul, List.take_zero]
    exact ⟨0, World.ownsRow_nil _ _ _ _⟩
  · obtain ⟨cur, k2, k3, k4, k5, k7, k6⟩ := rowSat_cur h
    have hm : n' * sz ≤ n * sz := Nat.mul_le_mul_right _ hn
    refine rowSat_mk k2 (by omega) k4 k5 ?_ ?_
    · simp only [List.length_take]; omega
    · rw [← k6, List.take_take, Nat.min_eq_left hm]

theorem Exec.rowTr (i n' : Nat) {k : List Kt} {L : Fr} {M M' : List OB} {V : View} {n c e sz : Nat} {a : Option Addr} {cs : List Value} (hi : nth M i = some (.row (.slice a n c) cs e sz)) (hn : n' ≤ n)
    (hs : setN M i (.row (.slice a n' c) (cs.take (n' * sz)) e sz) = some M') (hk : plainK k = true) (h : Exec C ⟨k, L, M'⟩ V) : Exec C ⟨k, L, M⟩ V := by
  obtain ⟨_, rfl⟩ := setN_sound hs
  rw [nth_eq] at hi
  refine Exec.of fun FR DF env t w h1 h2 h3 h4 h5 => ?_
  have hW := h2.upd (w' := w) (o' := .row (.slice a n' c) (cs.take (n' * sz)) e sz) hi (by simp) rfl rfl rfl (fun _ _ _ => rfl) (rowSat_tr (h2.sat i _ hi) hn) (fun p hp => .inl (by cases a <;> exact hp))
  exact h.to FR DF env t w h1 hW (h3.set (by simp)) (h4.set (by simp)) (plainK_D hk _ _ _ _)

/-- A row of which more is told: its room, whose cells hold we do not know what. -/
theorem Exec.rowEx (i m : Nat) {k : List Kt} {L : Fr} {M : List OB} {M' : List Value → List OB} {V : View} {n c e sz : Nat} {a : Option Addr} {cs : List Value} (hi : nth M i = some (.row (.slice a n c) cs e sz)) (hm : n + m ≤ c)
    (hs : ∀ js, setN M i (.row (.slice a (n + m) c) (cs ++ js) e sz) = some (M' js)) (hk : plainK k = true) (h : ∀ js, js.length = m * sz → Exec C ⟨k, L, M' js⟩ V) : Exec C ⟨k, L, M⟩ V := by
  rw [nth_eq] at hi
  refine Exec.of fun FR DF env t w h1 h2 h3 h4 h5 => ?_
  have hsat : rowSat w e sz (.slice a n c) cs := h2.sat i _ hi
  have hex : ∃ js, js.length = m * sz ∧ rowSat w e sz (.slice a (n + m) c) (cs ++ js) := by
    obtain ⟨r1, r2, r3, r4⟩ := rowSat_some hsat
    rcases r3 with ⟨rfl, rfl, rfl⟩ | ⟨g, rfl⟩
    · obtain rfl : m = 0 := by omega
      exact ⟨[], by simp, by simpa using hsat⟩
    · obtain ⟨cur, k2, k3, k4, k5, k7, k6⟩ := rowSat_cur hsat
      have hle : n * sz + m * sz ≤ c * sz := by rw [← Nat.add_mul]; exact Nat.mul_le_mul_right _ hm
      refine ⟨(cur.toList.drop (n * sz)).take (m * sz), by simp; omega, rowSat_mk k2 hm k4 k5 ?_ ?_⟩
      · rw [Nat.add_mul]; simp only [List.length_append, List.length_take, List.length_drop, Array.length_toList]; omega
      · rw [← k6, Nat.add_mul]
        exact List.take_add
  obtain ⟨js, hj, hr⟩ := hex
  obtain ⟨_, hM'⟩ := setN_sound (hs js)
  have hW := h2.upd (w' := w) (o' := .row (.slice a (n + m) c) (cs ++ js) e sz) hi (by simp) rfl rfl rfl (fun _ _ _ => rfl) hr (fun p hp => .inl (by cases a <;> exact hp))
  rw [← hM'] at hW
  refine (h js hj).to FR DF env t w h1 hW ?_ ?_ (plainK_D hk _ _ _ _)
  · rw [hM']; exact h3.set (by simp)
  · rw [hM']; exact h4.set (by simp)

end

/-! ### Where the cells that are read stand -/

/-- From address a on these cells lie: in a row of the call's own, or open. -/
inductive Src (M : List OB) (V : View) : Option Addr → List Value → Prop where
  | nil (a : Option Addr) : Src M V a []
  | open_ {a : Option Addr} {l : List Value} (h : RdAt V a 0 l) : Src M V a l
  | row {g off : Nat} {l : List Value} (j : Nat) {n c : Nat} {cs : List Value} {e sz : Nat} (h : nth M j = some (.row (.slice (some ⟨g, 0, none⟩) n c) cs e sz)) (hl : CellsAt cs off l) : Src M V (some ⟨g, off, none⟩) l

theorem Src.cells {M : List OB} {V V0 : View} {FR : Frm} {env : List Nat} {w : World} (h2 : WOk V0 FR env V M w) {a : Option Addr} {l : List Value} (h : Src M V a l) : l = [] ∨ ∃ ad, a = some ad ∧ ∀ j u, l[j]? = some u → w.cell? (ad.add j) = some u := by
  cases h with
  | nil a => exact .inl rfl
  | open_ h =>
    obtain ⟨b, o, rfl, hc⟩ := h
    exact .inr ⟨_, rfl, fun j u hu => by rw [Addr.add_lit]; simpa using h2.holds _ _ (hc j u hu)⟩
  | row j h hl =>
    rw [nth_eq] at h
    exact .inr ⟨_, rfl, fun j u hu => by rw [Addr.add_lit]; simpa using rowSat_cell (h2.sat _ _ h) rfl hl j u hu⟩

theorem run_copyK {P : Program} (w : World) (dT sT ty elem sz : Nat) (g o dLen dCap : Nat) (a : Option Addr) (sLen sCap : Nat) (cur : Array Value) (t : TypeId) (cs : List Value)
    (hu : P.underlying dT = some (.slice elem)) (hs : ∃ i, P.info? elem = some i ∧ i.size = sz)
    (hg : w.heap[g]? = some (.cells cur t (0, 0))) (hn : cs.length = Nat.min sLen dLen * sz)
    (hsrc : cs = [] ∨ ∃ ad, a = some ad ∧ ∀ j u, cs[j]? = some u → w.cell? (ad.add j) = some u) (hfit : o + cs.length ≤ cur.size) (h1 : ∀ v ∈ cs, v.oneCell' = true) :
    (Builtin.copy_ #[dT, sT] ty #[.slice (some ⟨g, o, none⟩) dLen dCap, .slice a sLen sCap]).run P w =
      .ok (goInt (Nat.min sLen dLen)) (w.setRow g (cur.toList.take o ++ cs ++ cur.toList.drop (o + cs.length)).toArray) := by
  have hst := run_storeCells_at P g o t cs 0 cur w hg (by simpa using hfit) h1
  obtain ⟨i, hq, hi⟩ := hs
  have hf : (Builtin.firstCells sz (Nat.min sLen dLen) (.slice a sLen sCap)).run P w = .ok cs.toArray w := by
    rcases hsrc with h0 | ⟨ad, rfl, hc⟩
    · have hz : Nat.min sLen dLen * sz = 0 := by rw [← hn, h0]; rfl
      subst h0
      cases a with
      | none => exact run_firstCells_none w sz _ sLen sCap
      | some ad => exact run_firstCells_some w sz _ ad sLen sCap [] (by simpa using hz.symm) (by simp)
    · exact run_firstCells_some w sz _ ad sLen sCap cs hn hc
  simp only [Nat.add_zero] at hst
  simp [Builtin.copy_, run_underlying hu, Builtin.lenOf, sizeOf, typeInfo, hq, hi, hf, hst]

theorem run_clearK {P : Program} (w : World) (t e ty : TypeId) (z : Value) (ht : P.underlying t = some (.slice e)) {i : TypeInfo} (hi : P.info? e = some i) (hz : i.zero = some z)
    (g o n c : Nat) (cur : Array Value) (et : TypeId) (hg : w.heap[g]? = some (.cells cur et (0, 0))) (hfit : o + n * z.cells.size ≤ cur.size) (h1 : ∀ v ∈ z.cells.toList, v.oneCell' = true) :
    ∃ cur', (Builtin.clear_ #[t] ty #[.slice (some ⟨g, o, none⟩) n c]).run P w = .ok (.tuple #[]) (w.setRow g cur') ∧ cur'.size = cur.size ∧ cur'.toList.take o = cur.toList.take o := by
  have hlen : (Builtin.zeroCells z.cells n).toList.length = n * z.cells.size := by simp [Builtin.zeroCells]
  have hone : ∀ v ∈ (Builtin.zeroCells z.cells n).toList, v.oneCell' = true := by
    intro v hv
    simp only [Builtin.zeroCells, Array.toList_map, Array.toList_range, List.mem_map, List.mem_range] at hv
    obtain ⟨j, hj, rfl⟩ := hv
    have h0 : 0 < z.cells.size := by
      rcases Nat.eq_zero_or_pos z.cells.size with h | h
      · rw [h] at hj; simp at hj
      · exact h
    have hlt := Nat.mod_lt j h0
    rw [getElem!_pos z.cells (j % z.cells.size) hlt]
    exact h1 _ (by simp)
  have hst := run_storeCells_at P g o et (Builtin.zeroCells z.cells n).toList 0 cur w hg (by rw [hlen]; simpa using hfit) hone
  simp only [Nat.add_zero] at hst
  cases n with
  | zero =>
    refine ⟨cur, ?_, rfl, rfl⟩
    rw [setRow_self w g cur et (0, 0) hg]
    simp [Builtin.clear_, run_underlying ht]
  | succ n =>
    refine ⟨(cur.toList.take o ++ (Builtin.zeroCells z.cells (n + 1)).toList ++ cur.toList.drop (o + (Builtin.zeroCells z.cells (n + 1)).toList.length)).toArray, ?_, ?_, ?_⟩
    · simp [Builtin.clear_, run_underlying ht, zeroValue, typeInfo, hi, hz, hst]
    · simp only [List.size_toArray, List.length_append, List.length_take, List.length_drop, Array.length_toList, hlen]
      omega
    · simp only [List.append_assoc]
      rw [List.take_append_of_le_length (by simp; omega), List.take_take, Nat.min_self]

section
variable {C : Ctx} (hT : TOk C.P C.T) {o : Oper} {rest all : List Oper} {lr : List REnt} {k : List Kt} {L : Fr} {M : List OB} {V : View} {d : Nat}

/-- 's == nil', 's != nil' -/
def nilOf (T : List TyD) (od : Look) (G : List (Nat × Bool)) (op : Op) : Option (Bool × Option Addr) :=
  match op with
  | .binOp .eql t x (.const (.slice none _ _)) _ => match sliceTy T t, ev od G x with
    | some _, some (.v (.slice a _ _)) => some (true, a)
    | _, _ => none
  | .binOp .neq t x (.const (.slice none _ _)) _ => match sliceTy T t, ev od G x with
    | some _, some (.v (.slice a _ _)) => some (false, a)
    | _, _ => none
  | _ => none

include hT in
theorem nil_run {env : List Nat} {t' : Array Value} {od : Look} (hO : Tells env M t' od) {G : List (Nat × Bool)} (hG : condT t' G) {b : Bool} {a : Option Addr} (hc : nilOf C.T od G o.op = some (b, a)) (w : World) :
    (execOp (⟨t', []⟩ : Act).eval o).run C.P w = .ok (.value (.bool (if b = true then a.isNone else !a.isNone))) w := by
  unfold nilOf at hc
  split at hc <;> try (simp at hc; done)
  · rename_i t x n' c' ty hop
    split at hc <;> try (simp at hc; done)
    rename_i q a' n c hs hx
    simp only [Option.some.injEq, Prod.mk.injEq] at hc
    obtain ⟨rfl, rfl⟩ := hc
    obtain ⟨u1, _⟩ := sliceTy_sound hT hs
    unfold execOp
    have := Lib.run_eql_slice_nil (P := C.P) w t _ a' n c n' c' u1
    have e1 := ev_sound hO hG hx
    simp only [den] at e1
    simp only [hop, e1, show (⟨t', []⟩ : Act).eval (.const (.slice none n' c')) = .slice none n' c' from rfl, Sem.run_bind, if_true]
    simp [eqGuard, this]
  · rename_i t x n' c' ty hop
    split at hc <;> try (simp at hc; done)
    rename_i q a' n c hs hx
    simp only [Option.some.injEq, Prod.mk.injEq] at hc
    obtain ⟨rfl, rfl⟩ := hc
    obtain ⟨u1, _⟩ := sliceTy_sound hT hs
    unfold execOp
    have := run_neq_slice_nil_any (P := C.P) w t _ a' n c n' c' u1
    have e1 := ev_sound hO hG hx
    simp only [den] at e1
    simp only [hop, e1, show (⟨t', []⟩ : Act).eval (.const (.slice none n' c')) = .slice none n' c' from rfl, Sem.run_bind]
    simp [eqGuard, this]

include hT in
theorem Exec.nilS {G : List (Nat × Bool)} {b : Bool} {a : Option Addr} (hh : headOf C.nt all lr L o = some (G, d)) (hc : nilOf C.T (opd L lr) G o.op = some (b, a))
    (h : Exec C ⟨.ops rest all (⟨d, G, .v (.bool (if b = true then a.isNone else !a.isNone)), d⟩ :: lr) :: k, nextL G d (.v (.bool (if b = true then a.isNone else !a.isNone))) L, M⟩ V) : Exec C ⟨.ops (o :: rest) all lr :: k, L, M⟩ V :=
  Exec.yieldsP (x := .v (.bool (if b = true then a.isNone else !a.isNone))) hh (fun _ _ w h3 h4 _ hG => ⟨trivial, nil_run hT (opd_sound h3 h4) hG hc w⟩) h

/-- The address of s[lo:..]. -/
def slAd (a : Option Addr) (c lo sz : Nat) : Option Addr := if c = lo then a else a.map (·.add (lo * sz))

include hT in
/-- s[lo:hi], whatever s holds. -/
theorem Exec.slx {a : Option Addr} {n cp sz : Nat} {p q : Option Int} {lo hi : Int} {lo' n' c' : Nat} (hh : headOf C.nt all lr L o = some ([], d)) (hc : slvOf C.T (opd L lr) [] o.op = some (a, n, cp, p, q, sz)) (hlo : loN p = lo) (hhi : hiN n q = hi)
    (hb : 0 ≤ lo ∧ lo ≤ hi ∧ hi ≤ cp) (e1 : lo.toNat = lo') (e2 : hi.toNat - lo' = n') (e3 : cp - lo' = c')
    (h : Exec C ⟨.ops rest all (⟨d, [], .v (.slice (slAd a cp lo' sz) n' c'), d⟩ :: lr) :: k, (d, .v (.slice (slAd a cp lo' sz) n' c')) :: L, M⟩ V) : Exec C ⟨.ops (o :: rest) all lr :: k, L, M⟩ V := by
  subst hlo; subst hhi; subst e1; subst e2; subst e3
  exact Exec.yieldsP (G := []) (x := .v (.slice (slAd a cp (loN p).toNat sz) ((hiN n q).toNat - (loN p).toNat) (cp - (loN p).toNat))) hh (fun _ _ w h3 h4 _ hG => ⟨trivial, slv_run hT (opd_sound h3 h4) hG hc hb w⟩) h

include hT in
theorem Exec.fslx {a : Option Addr} {n cp sz : Nat} {p q : Option Int} {lo hi : Int} {lo' n' c' : Nat} {listed : List Bool} {i m m' : Nat} {ends n0 mask} {V1 : View} {pp : List (Nat × Bool)} (hh : headX C.nt all lr i L = some (o, [], d)) (hm : m' = m + 1) (hc : slvOf C.T (opd L lr) [] o.op = some (a, n, cp, p, q, sz)) (hlo : loN p = lo) (hhi : hiN n q = hi)
    (hb : 0 ≤ lo ∧ lo ≤ hi ∧ hi ≤ cp) (e1 : lo.toNat = lo') (e2 : hi.toNat - lo' = n') (e3 : cp - lo' = c')
    (h : Exec C ⟨.draw ⟨all, setT listed i, m, ends, n0, mask, V1, pp, ⟨d, [], .v (.slice (slAd a cp lo' sz) n' c'), d⟩ :: lr⟩ :: k, (d, .v (.slice (slAd a cp lo' sz) n' c')) :: L, M⟩ V) :
    Exec C ⟨.draw ⟨all, listed, m', ends, n0, mask, V1, (i, true) :: pp, lr⟩ :: k, L, M⟩ V := by
  subst hlo; subst hhi; subst e1; subst e2; subst e3
  exact Exec.fyields (G := []) (x := .v (.slice (slAd a cp (loN p).toNat sz) ((hiN n q).toNat - (loN p).toNat) (cp - (loN p).toNat))) hh hm (fun _ _ w h3 h4 _ _ hG => ⟨trivial, slv_run hT (opd_sound h3 h4) hG hc hb w⟩) h

end
end Go.Proofs.Ytkbldnpifmjipaa
