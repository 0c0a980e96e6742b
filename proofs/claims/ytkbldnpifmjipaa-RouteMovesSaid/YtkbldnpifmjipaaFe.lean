/-
  A FRAMEWORK FOR PROOFS ABOUT CALLS (part e): the step function is sound.
  Conditions: the table of types is the program's (TOk).
-/
import Derived.Test.YtkbldnpifmjipaaFd
set_option linter.all false
namespace Go.Proofs.Ytkbldnpifmjipaa

/-! ### Worlds -/

theorem OB.own_lt {env : List Nat} {M : List OB} {w : World} {b : Nat} : ∀ {o : OB}, o.sat env M w b → ∀ {a}, o.own b a → a.block < w.heap.size
  | .gone, _, _, h => h.elim
  | .blk cs ty, h, a, ha => by
    have : a.block = b := ha
    rw [this]
    exact (Array.getElem?_eq_some_iff.1 h.1).1
  | .row x cs e sz, h, a, ha => by
    obtain ⟨n, h⟩ := h
    exact (h.lt _ ha).2

theorem rowSat_of {w w' : World} {e sz : Nat} {x : Value} {cs : List Value} (h : rowSat w e sz x cs) (hk : ∀ g, x.ownBlock = some g → w'.heap[g]? = w.heap[g]?) : rowSat w' e sz x cs := by
  obtain ⟨n, h1, h2⟩ := h
  refine ⟨n, h1, ?_⟩
  rcases h2 with h2 | ⟨g, cap, cur, rfl, k1, k2, k3⟩
  · exact .inl h2
  · exact .inr ⟨g, cap, cur, rfl, k1, by rw [hk g rfl]; exact k2, k3⟩

/-- A new block of the call's own. -/
theorem WOk.alloc {V0 V : View} {FR : Frm} {env : List Nat} {M : List OB} {w : World} (h : WOk V0 FR env V M w) {cs : List SV} (hcs : ∀ x ∈ cs, x.ok M) (ty : Nat) :
    WOk V0 FR (env ++ [w.heap.size]) V (M ++ [.blk cs ty]) (w.alloc (.cells ⟨cs.map (den env)⟩ ty)) := by
  have hb : ∀ a x, V a = some x → a.block < w.heap.size := fun a x hx => World.block_lt_of_cell? w a (h.holds a x hx)
  have hf : ∀ b o, FR.blk b = some o → b < w.heap.size := fun b o ho => (Array.getElem?_eq_some_iff.1 (h.frame b o ho)).1
  have hcell : ∀ a x, w.cell? a = some x → (w.alloc (.cells ⟨cs.map (den env)⟩ ty)).cell? a = some x := fun a x hx => by
    rw [World.cell?_alloc_lt w _ a (World.block_lt_of_cell? w a hx)]; exact hx
  have hheap : ∀ k, k < w.heap.size → (w.alloc (.cells ⟨cs.map (den env)⟩ ty)).heap[k]? = w.heap[k]? := fun k hk => Go.RowKit.Below.heap_alloc w _ k hk
  have hold : ∀ (i : Nat) (o : OB), M[i]? = some o → envAt (env ++ [w.heap.size]) i = envAt env i := fun i o ho => envAt_append (by rw [h.len]; exact (List.getElem?_eq_some_iff.1 ho).1)
  have hget : ∀ (i : Nat) (o : OB), (M ++ [OB.blk cs ty])[i]? = some o → M[i]? = some o ∨ (i = M.length ∧ o = .blk cs ty) := by
    intro i o ho
    rw [List.getElem?_append] at ho
    split at ho
    · exact .inl ho
    · rename_i hi
      right
      have : i - M.length = 0 := by
        refine Classical.byContradiction fun hc => ?_
        obtain ⟨k, hk⟩ : ∃ k, i - M.length = k + 1 := ⟨i - M.length - 1, by omega⟩
        rw [hk] at ho
        simp at ho
      rw [this] at ho
      simp at ho
      exact ⟨by omega, ho.symm⟩
  refine ⟨h.os, h.tape, h.output, fun b o ho => by rw [hheap b (hf b o ho)]; exact h.frame b o ho, h.le, fun a x hx => hcell a x (h.holds a x hx), h.fresh, by simp [h.len], ?_, ?_, ?_, ?_⟩
  · intro i o ho
    rcases hget i o ho with ho | ⟨hi, he⟩
    · rw [hold i o ho]
      have hs := h.sat i o ho
      cases o with
      | gone => trivial
      | blk cs' ty' =>
        obtain ⟨k1, k2⟩ := hs
        refine ⟨?_, fun x hx => SV.ok_mono (fun _ => alive_snoc _) (k2 x hx)⟩
        rw [hheap _ (Array.getElem?_eq_some_iff.1 k1).1, k1]
        congr 3
        exact List.map_congr_left fun x hx => (den_append h.len (k2 x hx)).symm
      | row x cs e sz =>
        exact rowSat_of hs fun g hg => hheap _ (OB.own_lt (env := env) (M := M) (b := 0) (o := .row x cs e sz) hs (a := ⟨g, 0, none⟩) hg)
    · subst he; subst hi
      rw [show M.length = env.length from h.len.symm, envAt_new]
      refine ⟨?_, fun x hx => SV.ok_mono (fun _ => alive_snoc _) (hcs x hx)⟩
      rw [heap_alloc_new]
      congr 3
      exact List.map_congr_left fun x hx => (den_append h.len (hcs x hx)).symm
  · intro i o a ho ha
    rcases hget i o ho with ho | ⟨hi, he⟩
    · rw [hold i o ho] at ha
      exact h.apartV i o a ho ha
    · subst he; subst hi
      rw [show M.length = env.length from h.len.symm, envAt_new] at ha
      have ha : a.block = w.heap.size := ha
      cases hv : V a with
      | none => rfl
      | some x => have := hb a x hv; omega
  · intro i o a ho ha
    rcases hget i o ho with ho | ⟨hi, he⟩
    · rw [hold i o ho] at ha
      exact h.apartF i o a ho ha
    · subst he; subst hi
      rw [show M.length = env.length from h.len.symm, envAt_new] at ha
      have ha : a.block = w.heap.size := ha
      cases hv : FR.blk a.block with
      | none => rfl
      | some x => have := hf _ x hv; omega
  · intro i j o o' a hij ho ho' ha ha'
    rcases hget i o ho with ho | ⟨hi, he⟩
    · rcases hget j o' ho' with ho' | ⟨hj, he'⟩
      · rw [hold i o ho] at ha
        rw [hold j o' ho'] at ha'
        exact h.apart i j o o' a hij ho ho' ha ha'
      · subst he'; subst hj
        rw [hold i o ho] at ha
        rw [show M.length = env.length from h.len.symm, envAt_new] at ha'
        have ha' : a.block = w.heap.size := ha'
        have := OB.own_lt (h.sat i o ho) ha
        omega
    · subst he; subst hi
      rw [show M.length = env.length from h.len.symm, envAt_new] at ha
      have ha : a.block = w.heap.size := ha
      rcases hget j o' ho' with ho' | ⟨hj, he'⟩
      · rw [hold j o' ho'] at ha'
        have := OB.own_lt (h.sat j o' ho') ha'
        omega
      · exact hij hj.symm

/-- A store into a block of the call's own. -/
theorem WOk.store {V0 V : View} {FR : Frm} {env : List Nat} {M : List OB} {w : World} (h : WOk V0 FR env V M w) {i : Nat} {cs cs' : List SV} {ty : Nat} (hi : M[i]? = some (.blk cs ty))
    (hcs : ∀ x ∈ cs', x.ok M) (hl : cs'.length = cs.length) :
    WOk V0 FR env V (M.set i (.blk cs' ty)) (w.setRow (envAt env i) ⟨cs'.map (den env)⟩) := by
  have hs := h.sat i _ hi
  have hil : i < M.length := (List.getElem?_eq_some_iff.1 hi).1
  have hother : ∀ k, k ≠ envAt env i → (w.setRow (envAt env i) ⟨cs'.map (den env)⟩).heap[k]? = w.heap[k]? := fun k hk => setRow_other w _ k _ hk
  have hown : ∀ a : Addr, a.block = envAt env i → V a = none ∧ FR.blk a.block = none := fun a ha => ⟨h.apartV i _ a hi ha, h.apartF i _ a hi ha⟩
  have hblk : ∀ (j : Nat) (o : OB), j ≠ i → M[j]? = some o → ∀ a : Addr, o.own (envAt env j) a → a.block ≠ envAt env i := fun j o hj ho a ha hb => h.apart j i o _ a hj ho hi ha hb
  have hget : ∀ (j : Nat) (o : OB), (M.set i (.blk cs' ty))[j]? = some o → (j ≠ i ∧ M[j]? = some o) ∨ (j = i ∧ o = .blk cs' ty) := by
    intro j o ho
    rw [List.getElem?_set] at ho
    split at ho
    · rename_i hj
      subst hj
      simp only [Option.some.injEq] at ho
      exact .inr ⟨rfl, ho.symm⟩
    · rename_i hj
      exact .inl ⟨fun e => hj e.symm, ho⟩
  have hgown : ∀ (j : Nat) (o : OB), (M.set i (.blk cs' ty))[j]? = some o → ∃ o0, M[j]? = some o0 ∧ ∀ a, o.own (envAt env j) a → o0.own (envAt env j) a := by
    intro j o ho
    rcases hget j o ho with ⟨_, ho⟩ | ⟨hj, he⟩
    · exact ⟨o, ho, fun _ h => h⟩
    · subst he; subst hj; exact ⟨_, hi, fun _ h => h⟩
  refine ⟨h.os, h.tape, h.output, ?_, h.le, ?_, h.fresh, by simp [h.len], ?_, ?_, ?_, ?_⟩
  · intro b o ho
    have : b ≠ envAt env i := by
      intro hb
      have := (hown ⟨b, 0, none⟩ hb).2
      simp only at this
      rw [this] at ho
      simp at ho
    rw [hother b this]
    exact h.frame b o ho
  · intro a x hx
    have : a.block ≠ envAt env i := by
      intro hb
      rw [(hown a hb).1] at hx
      simp at hx
    rw [cell_setRow_other w _ _ a this]
    exact h.holds a x hx
  · intro j o ho
    rcases hget j o ho with ⟨hj, ho⟩ | ⟨hj, he⟩
    · have hs' := h.sat j o ho
      cases o with
      | gone => trivial
      | blk cs2 ty2 =>
        obtain ⟨k1, k2⟩ := hs'
        refine ⟨?_, fun x hx => SV.ok_mono (fun _ => alive_set (by simp)) (k2 x hx)⟩
        rw [hother _ (hblk j _ hj ho ⟨envAt env j, 0, none⟩ rfl)]
        exact k1
      | row x cs e sz =>
        exact rowSat_of hs' fun g hg => hother _ (hblk j _ hj ho ⟨g, 0, none⟩ hg)
    · subst he; subst hj
      exact ⟨setRow_heap w _ _ _ _ _ hs.1, fun x hx => SV.ok_mono (fun _ => alive_set (by simp)) (hcs x hx)⟩
  · intro j o a ho ha
    obtain ⟨o0, h1, h2⟩ := hgown j o ho
    exact h.apartV j o0 a h1 (h2 a ha)
  · intro j o a ho ha
    obtain ⟨o0, h1, h2⟩ := hgown j o ho
    exact h.apartF j o0 a h1 (h2 a ha)
  · intro j k o o' a hjk ho ho' ha ha'
    obtain ⟨o0, h1, h2⟩ := hgown j o ho
    obtain ⟨o1, h3, h4⟩ := hgown k o' ho'
    exact h.apart j k o0 o1 a hjk h1 h3 (h2 a ha) (h4 a ha')

/-! ### Values that an operation yields -/

theorem pv_ok {T : List TyD} {op : Op} {e : Operand → Option SV} {M : List OB} (he : ∀ x a, e x = some a → a.ok M) {r : SV} (h : pv T op e = some r) : r.ok M := by
  unfold pv at h
  split at h
  case h_1 x => exact he _ _ h
  case h_2 x => exact he _ _ h
  case h_5 t x f =>
    split at h
    · split at h
      · rename_i a ha
        have := he _ _ ha
        unfold addrAt at h
        split at h
        · simp only [Option.some.injEq] at h; subst h; exact this
        · simp only [Option.some.injEq] at h; subst h; exact this
        · simp only [Option.some.injEq] at h; subst h; trivial
        · simp at h
      · simp at h
    · simp at h
  case h_6 t x f =>
    split at h
    · split at h
      · unfold partV at h
        split at h
        · split at h
          · simp only [Option.some.injEq] at h; subst h; trivial
          · simp at h
        · simp at h
      · simp at h
    · simp at h
  all_goals
    repeat' (split at h)
    all_goals first
      | (simp only [Option.some.injEq] at h; subst h; trivial)
      | (simp at h; done)

theorem pickSV_sound {x : Bool} {oa ob : Operand} {a b r : SV} (h : pickSV x oa ob a b = some r) (hca : ∀ y, oa = .const (.bool y) → a = .v (.bool y)) (hcb : ∀ y, ob = .const (.bool y) → b = .v (.bool y)) :
    (∃ q, r = .v (.bool q)) ∧ (x = true → r = a) ∧ (x = false → r = b) := by
  unfold pickSV at h
  split at h
  · rename_i p q
    split at h
    · have := hca true rfl
      simp only [SV.v.injEq, Value.bool.injEq] at this
      subst this
      simp only [Option.some.injEq] at h; subst h
      exact ⟨⟨_, rfl⟩, by rintro rfl; rfl, by rintro rfl; rfl⟩
    · split at h
      · have := hcb false rfl
        simp only [SV.v.injEq, Value.bool.injEq] at this
        subst this
        simp only [Option.some.injEq] at h; subst h
        exact ⟨⟨_, rfl⟩, by rintro rfl; rfl, by rintro rfl; rfl⟩
      · simp only [Option.some.injEq] at h; subst h
        exact ⟨⟨_, rfl⟩, by rintro rfl; rfl, by rintro rfl; rfl⟩
  · simp at h

/-- Constants are looked up as what they are. -/
def Plain (od : Look) : Prop := ∀ y : Value, od (.const y) = some ([], .v y, none)

theorem opd_plain (L : Fr) (lr : List REnt) : Plain (opd L lr) := fun _ => rfl

theorem ev_const {od : Look} (hp : Plain od) {G : List (Nat × Bool)} {y : Value} {a : SV} (h : ev od G (.const y) = some a) : a = .v y := by
  simp only [ev, hp y, subC] at h
  simp only [Option.some.injEq] at h
  exact h.symm

theorem run_loadSV {P : Program} {T : List TyD} (hT : TOk P T) {w : World} {env : List Nat} {b : Nat} {cs : List SV} {ty : Nat} (hb : w.heap[b]? = some (.cells ⟨cs.map (den env)⟩ ty (0, 0)))
    {t : Nat} {d : TyD} (hd : nth T t = some d) (hs : d.size ≠ 0) {o : Nat} {r : SV} (h : loadSV d cs o = some r) : (loadVar t ⟨b, o, none⟩).run P w = .ok (den env r) w := by
  have hcell : ∀ j, w.cell? ⟨b, j, none⟩ = (cs.map (den env))[j]? := fun j => by rw [cell_of_row w b j _ _ _ hb]; simp
  unfold loadSV at h
  simp only [loadVar, Sem.run_bind, t_agg hT w hd hs, Result.andThen_ok]
  split at h
  · rename_i hag
    split at h
    · rename_i l hl
      split at h
      · rename_i r' hr
        simp only [Option.some.injEq] at h; subst h
        obtain ⟨h1, h2⟩ := takeN_pos hl hs
        have h3 := vals_sound (env := env) hr
        have h4 : r'.length = d.size := by rw [← h3, h1]; simp; omega
        have hload := run_loadCells_list (P := P) w ⟨b, o, none⟩ r' (fun j v hv => by
          rw [Addr.add_lit, hcell]
          rw [← h3, h1] at hv
          simp only [List.getElem?_map, List.getElem?_take, List.getElem?_drop] at hv ⊢
          split at hv
          · exact hv
          · simp at hv)
        rw [h4] at hload
        simp only [hag, if_true, Sem.run_bind, t_size hT w hd hs, Result.andThen_ok, hload]
        rfl
      · simp at h
    · simp at h
  · rename_i hag
    rw [nth_eq] at h
    simp only [hag, Bool.false_eq_true, if_false, run_load, hcell, List.getElem?_map, h, Option.map_some]

theorem loadSV_ok {d : TyD} {cs : List SV} {o : Nat} {M : List OB} {r : SV} (hcs : ∀ x ∈ cs, x.ok M) (h : loadSV d cs o = some r) : r.ok M := by
  unfold loadSV at h
  split at h
  · split at h
    · split at h
      · simp only [Option.some.injEq] at h; subst h; trivial
      · simp at h
    · simp at h
  · rw [nth_eq] at h
    exact hcs _ (List.mem_of_getElem? h)

end Go.Proofs.Ytkbldnpifmjipaa
