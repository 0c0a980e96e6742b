/-
  A FRAMEWORK FOR PROOFS ABOUT CALLS (part g): memory of the call's own; 'step' and 'run' are sound.
  Conditions: the table of types is the program's (TOk).
-/
import Derived.Test.YtkbldnpifmjipaaFf
set_option linter.all false
namespace Go.Proofs.Ytkbldnpifmjipaa

section
variable {P : Program} {T : List TyD} (hT : TOk P T)
include hT

/-- An operation that makes or writes memory of the call's own. -/
theorem memOf_sound {V0 V : View} {FR : Frm} {env : List Nat} {od : Look} {M : List OB} {t : Array Value} {w : World} (hW : WOk V0 FR env V M w) (hO : Tells env M t od)
    {o : Oper} {x : Option SV} {M' : List OB} (h : memOf T od M o.op = some (x, M')) :
    ∃ env' w', (∃ r, env' = env ++ r) ∧ (x ≠ none → ∃ r, M' = M ++ r) ∧ (x = none → ∃ i b, stAt od o.op = some i ∧ M' = M.set i b) ∧ WOk V0 FR env' V M' w' ∧ (∀ L, LOk env M L t → LOk env' M' L t) ∧ (∀ lr, ROk env M lr t → ROk env' M' lr t) ∧
      (match x with
        | some x => x.ok M' ∧ (execOp (⟨t, []⟩ : Act).eval o).run P w = .ok (.value (den env' x)) w'
        | none => (execOp (⟨t, []⟩ : Act).eval o).run P w = .ok .skip w') := by
  unfold memOf at h
  split at h
  case h_1 ty a b hop =>
    split at h <;> try (simp at h; done)
    rename_i d hd
    split at h <;> try (simp at h; done)
    rename_i sz hsz
    split at h <;> try (simp at h; done)
    rename_i i off v ha hb
    split at h <;> try (simp at h; done)
    rename_i cs ty' hM
    split at h <;> try (simp at h; done)
    rename_i vs hvs
    split at h <;> try (simp at h; done)
    rename_i hlen hone
    split at h <;> try (simp at h; done)
    rename_i cs' hcs'
    split at h <;> try (simp at h; done)
    rename_i M2 hM2
    simp only [Option.some.injEq, Prod.mk.injEq] at h
    obtain ⟨rfl, rfl⟩ := h
    rw [nth_eq] at hM
    obtain ⟨hi, rfl⟩ := setN_sound hM2
    have hs := hW.sat i _ hM
    have ha' : (⟨t, []⟩ : Act).eval a = .pointer (some ⟨envAt env i, off, none⟩) := ev_sound hO (G := []) trivial ha
    have hb' := ev_sound hO (G := []) trivial hb
    obtain ⟨c1, c2⟩ := cellsV_sound (env := env) (ev_ok hO (G := []) trivial hb) hvs
    obtain ⟨p1, p2⟩ := putN_sound hcs'
    have hl : cs'.length = cs.length := by rw [p2]; simp; omega
    have hlt : ∀ x ∈ cs', x.ok M := by
      intro y hy
      rw [p2] at hy
      simp only [List.mem_append] at hy
      rcases hy with (hy | hy) | hy
      · exact hs.2 y (List.mem_of_mem_take hy)
      · exact c2 y hy
      · exact hs.2 y (List.mem_of_mem_drop hy)
    refine ⟨env, w.setRow (envAt env i) ⟨cs'.map (den env)⟩, ⟨[], by simp⟩, fun h => absurd rfl h, fun _ => ⟨i, _, by simp only [hop, stAt, ha], rfl⟩, hW.store hM hlt hl, fun _ hL => hL.set (by simp), fun _ hR => hR.set (by simp), ?_⟩
    have hsv : vs.length = d.size := by rw [beq_nat hlen, hsz]
    have hst := run_storeCells_at (P := P) (envAt env i) off ty' (vs.map (den env)) 0 ⟨cs.map (den env)⟩ w hs.1 (by simp; omega) (allOne_sound hone)
    have hrow : (⟨cs'.map (den env)⟩ : Array Value) = ⟨(cs.map (den env)).take off ++ vs.map (den env) ++ (cs.map (den env)).drop (off + vs.length)⟩ := by
      rw [p2]; simp
    unfold execOp
    simp only [hop, ha', hb', Instr.storeAt, Instr.sureAddr, storeVar, Sem.run_bind, Sem.run_pure, Result.andThen_ok, t_size hT w hd (by omega), c1]
    rw [if_neg (by simp [hsv])]
    simp only [Nat.add_zero, List.length_map] at hst
    simp only [Result.andThen_ok, hst, hrow]
  case h_2 ty a hop =>
    split at h <;> try (simp at h; done)
    rename_i v ha
    split at h <;> try (simp at h; done)
    rename_i cs hcs
    split at h <;> try (simp at h; done)
    rename_i M2 n hM2
    simp only [Option.some.injEq, Prod.mk.injEq] at h
    obtain ⟨rfl, rfl⟩ := h
    obtain ⟨rfl, hn⟩ := snocN_sound hM2
    have ha' := ev_sound hO (G := []) trivial ha
    obtain ⟨c1, c2⟩ := cellsV_sound (env := env) (ev_ok hO (G := []) trivial ha) hcs
    refine ⟨env ++ [w.heap.size], _, ⟨_, rfl⟩, fun _ => ⟨_, rfl⟩, fun h => by simp at h, hW.alloc c2 ty, fun _ hL => hL.mono hW.len _ _, fun _ hR => hR.mono hW.len _ _, ?_, ?_⟩
    · exact ⟨_, by rw [hn]; simp; rfl, by simp⟩
    · unfold execOp
      simp only [hop, ha', Instr.box, newVar, newRow, Sem.run_bind, Sem.run_pure, Result.andThen_ok, run_newObj, c1]
      simp only [den, hn, Nat.zero_add, ← hW.len, envAt_new]
      rfl
  case h_3 ty hop =>
    split at h <;> try (simp at h; done)
    rename_i d hd
    split at h <;> try (simp at h; done)
    rename_i k hsz
    split at h <;> try (simp at h; done)
    rename_i z hz
    split at h <;> try (simp at h; done)
    rename_i M2 n hM2
    simp only [Option.some.injEq, Prod.mk.injEq] at h
    obtain ⟨rfl, rfl⟩ := h
    obtain ⟨rfl, hn⟩ := snocN_sound hM2
    obtain ⟨c1, c2⟩ := liftV_sound (env := env) (M := M) hz
    obtain ⟨i, dd, zv, h1, h2, h3, h4⟩ := tyD_some (hT.1 _ d hd (by omega))
    have hdz : d.zero = zv.cells.toList := by rw [h4]
    refine ⟨env ++ [w.heap.size], _, ⟨_, rfl⟩, fun _ => ⟨_, rfl⟩, fun h => by simp at h, hW.alloc c2 ty, fun _ hL => hL.mono hW.len _ _, fun _ hR => hR.mono hW.len _ _, ?_, ?_⟩
    · exact ⟨_, by rw [hn]; simp; rfl, by simp⟩
    · unfold execOp
      simp only [hop, Instr.alloc, zeroValue, typeInfo, newVar, newRow, Sem.run_bind, run_program, h1, h3, Sem.run_pure, Result.andThen_ok, run_newObj, den, hn, Nat.zero_add, ← hW.len, envAt_new, c1, hdz]
      rfl
  case h_4 => simp at h

/-- A slice literal. -/
theorem bslOf_sound {V0 V : View} {FR : Frm} {env : List Nat} {od : Look} {M : List OB} {t : Array Value} {w : World} (hW : WOk V0 FR env V M w) (hO : Tells env M t od)
    {o : Oper} {x : SV} {M' : List OB} {n0 e0 : Nat} {cs0' : List SV} (h : bslOf T od M o.op = some (x, M', n0, cs0', e0)) :
    ∃ env' w', (∃ r, env' = env ++ r) ∧ (∃ r, M' = M ++ r) ∧ WOk V0 FR env' V M' w' ∧ (∀ L, LOk env M L t → LOk env' M' L t) ∧ (∀ lr, ROk env M lr t → ROk env' M' lr t) ∧
      x.ok M' ∧ (execOp (⟨t, []⟩ : Act).eval o).run P w = .ok (.value (den env' x)) w' := by
  unfold bslOf at h
  split at h <;> try (simp at h; done)
  rename_i ty len parts hop
  split at h <;> try (simp at h; done)
  rename_i d hd
  split at h <;> try (simp at h; done)
  rename_i k hsz
  split at h <;> try (simp at h; done)
  rename_i e hu
  split at h <;> try (simp at h; done)
  rename_i ed hed
  split at h <;> try (simp at h; done)
  rename_i sz hesz
  split at h <;> try (simp at h; done)
  rename_i z hbig hz hzl
  split at h <;> try (simp at h; done)
  rename_i cs0 hcs0
  split at h <;> try (simp at h; done)
  rename_i cs hcs
  split at h <;> try (simp at h; done)
  rename_i M2 n hM2
  simp only [Option.some.injEq, Prod.mk.injEq] at h
  obtain ⟨rfl, rfl, rfl, rfl, rfl⟩ := h
  obtain ⟨rfl, hn⟩ := snocN_sound hM2
  obtain ⟨c1, c2⟩ := liftV_sound (env := env) (M := M) hz
  obtain ⟨i, dd, zv, h1, h2, h3, h4⟩ := tyD_some (hT.1 _ ed hed (by omega))
  have hdz : ed.zero = zv.cells.toList := by rw [h4]
  have hzl' : z.length = sz + 1 := by
    have := beq_nat hzl
    rw [← this, ← c1]; simp
  obtain ⟨r1, r2⟩ := repN_sound (env := env) hcs0
  obtain ⟨f1, f2, f3⟩ := fillSV_sound (place' := fun i => some (i * (sz + 1), sz + 1)) (fun _ _ h => h) (ρ := (⟨t, []⟩ : Act).eval)
    (fun x a hxa => ⟨ev_sound hO (G := []) trivial hxa, ev_ok hO (G := []) trivial hxa⟩) parts cs0 cs (r2 _ c2) hcs
  refine ⟨env ++ [w.heap.size], _, ⟨_, rfl⟩, ⟨_, rfl⟩, hW.alloc f2 e, fun _ hL => hL.mono hW.len _ _, fun _ hR => hR.mono hW.len _ _, ?_, ?_⟩
  · exact ⟨_, by rw [hn]; simp; rfl, by simp⟩
  · have hes : (sizeOf e).run P w = .ok (sz + 1) w := by rw [t_size hT w hed (by omega), hesz]
    have hle : ¬ len * (sz + 1) > 2 ^ 24 := by
      have := Nat.le_of_ble_eq_true hbig
      omega
    have hzero : (zeroValue e).run P w = .ok zv w := by simp [zeroValue, typeInfo, h1, h3]
    have hz2 : zv.cells.size = sz + 1 := by
      have : zv.cells.toList.length = sz + 1 := by rw [← hdz, ← c1]; simp [hzl']
      simpa using this
    have hcells : (Array.range (len * (sz + 1))).map (fun i => (zv.cells)[i % zv.cells.size]!) = ⟨cs0.map (den env)⟩ := by
      rw [r1, hzl', c1, hdz]
      apply Array.ext'
      simp [hz2]
      intro a _
      rw [getElem!_def]
      cases zv.cells[a % (sz + 1)]? <;> rfl
    unfold execOp
    simp only [hop, Instr.buildSlice, Sem.run_bind, run_underlying (t_slice hT hd (by omega) hu), Result.andThen_ok, hes, if_neg hle]
    by_cases h0 : len * (sz + 1) = 0
    · have hl0 : len = 0 := by
        rcases Nat.mul_eq_zero.1 h0 with h | h
        · exact h
        · omega
      subst hl0
      simp only [repN, Option.some.injEq] at hcs0
      subst hcs0
      simp only [h0, if_true, Sem.run_pure]
      simp only [List.map_nil] at f1
      simp only [Array.range_zero', Array.map_empty, Array.toList_map] 
      rw [show (#[] : Array Value) = ⟨[]⟩ from rfl, f1]
      simp [newRow, den, hn, ← hW.len, envAt_new]
    · simp only [h0, if_false, Sem.run_bind, hzero, Sem.run_pure, Result.andThen_ok, hcells, Array.toList_map]
      rw [f1]
      simp [newRow, den, hn, ← hW.len, envAt_new]

end
end Go.Proofs.Ytkbldnpifmjipaa
