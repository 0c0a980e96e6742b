/-
  A FRAMEWORK FOR PROOFS ABOUT CALLS (part n): what becomes of the call's own memory, in general; rows: slices of the call's own.
  Conditions: the table of types is the program's (TOk).
-/
import Derived.Test.YtkbldnpifmjipaaFm
set_option linter.all false
namespace Go.Proofs.Ytkbldnpifmjipaa

theorem OB.own_block {b : Nat} {a a' : Addr} (h : a'.block = a.block) : ∀ {o : OB}, o.own b a → o.own b a'
  | .gone, h' => h'.elim
  | .blk _ _, h' => h.trans h'
  | .row x _ _ _, h' => by simp only [OB.own] at h' ⊢; rw [h]; exact h'

/-- What another block says stays true where its own memory has not turned. -/
theorem OB.sat_of {env env' : List Nat} {M M' : List OB} {w w' : World} {b b' : Nat} (hb : b' = b) (hden : ∀ x : SV, x.ok M → den env' x = den env x) (hok : ∀ x : SV, x.ok M → x.ok M') :
    ∀ {o : OB}, o.sat env M w b → (∀ k, o.own b ⟨k, 0, none⟩ → w'.heap[k]? = w.heap[k]?) → o.sat env' M' w' b'
  | .gone, _, _ => trivial
  | .blk cs ty, h, hk => by
    subst hb
    refine ⟨?_, fun x hx => hok x (h.2 x hx)⟩
    rw [hk _ rfl, h.1]
    congr 3
    exact List.map_congr_left fun x hx => (hden x (h.2 x hx)).symm
  | .row x cs e sz, h, hk => rowSat_of h fun g hg => hk g hg

/-- The world has turned in the block i of the call's own, and in new ones; what is known has grown. -/
theorem WOk.updV {V0 V V' : View} {FR : Frm} {env : List Nat} {M : List OB} {w w' : World} (h : WOk V0 FR env V M w) {i : Nat} {o o' : OB} (hi : M[i]? = some o) (hne : o' ≠ .gone)
    (e1 : w'.os = w.os) (e2 : w'.tape = w.tape) (e3 : w'.output = w.output) (hother : ∀ k, k < w.heap.size → ¬ o.own (envAt env i) ⟨k, 0, none⟩ → w'.heap[k]? = w.heap[k]?)
    (hsat : o'.sat env (M.set i o') w' (envAt env i)) (hown : ∀ a, o'.own (envAt env i) a → o.own (envAt env i) a ∨ w.heap.size ≤ a.block)
    (hV : VLe V V') (hH : Holds V' w') (hVn : ∀ a x, V' a = some x → V a = some x ∨ w.heap.size ≤ a.block ∨ o.own (envAt env i) a) (hVo : ∀ a, o'.own (envAt env i) a → V' a = none) : WOk V0 FR env V' (M.set i o') w' := by
  have hf : ∀ b o, FR.blk b = some o → b < w.heap.size := fun b o ho => (Array.getElem?_eq_some_iff.1 (h.frame b o ho)).1
  have hget : ∀ (j : Nat) (q : OB), (M.set i o')[j]? = some q → (j ≠ i ∧ M[j]? = some q) ∨ (j = i ∧ q = o') := by
    intro j q hq
    rw [List.getElem?_set] at hq
    split at hq
    · rename_i hj
      subst hj
      split at hq
      · simp only [Option.some.injEq] at hq
        exact .inr ⟨rfl, hq.symm⟩
      · simp at hq
    · rename_i hj
      exact .inl ⟨fun e => hj e.symm, hq⟩
  have hfo : ∀ a : Addr, w.heap.size ≤ a.block → FR.blk a.block = none := fun a ha => by
    cases hv : FR.blk a.block with
    | none => rfl
    | some x => have := hf _ x hv; omega
  refine ⟨e1.trans h.os, e2.trans h.tape, e3.trans h.output, ?_, h.le.trans hV, hH, ?_, by simp [h.len], ?_, ?_, ?_, ?_⟩
  · intro b q hq
    rw [hother b (hf b q hq) (fun ho => by have := h.apartF i o _ hi ho; simp only at this; rw [this] at hq; simp at hq)]
    exact h.frame b q hq
  · intro a x hx
    rcases hVn a x hx with hx | hx | hx
    · exact h.fresh a x hx
    · exact .inr (hfo a hx)
    · exact .inr (h.apartF i o a hi hx)
  · intro j q hq
    rcases hget j q hq with ⟨hj, hq1⟩ | ⟨hj, he⟩
    · refine OB.sat_of rfl (fun _ _ => rfl) (fun x => SV.ok_mono fun _ => alive_set hne) (h.sat j q hq1) fun k hk => ?_
      exact hother k (OB.own_lt (h.sat j q hq1) hk) fun ho => h.apart j i q o _ hj hq1 hi hk ho
    · subst he; subst hj
      exact hsat
  · intro j q a hq ha
    rcases hget j q hq with ⟨hj, hq1⟩ | ⟨hj, he⟩
    · cases hv : V' a with
      | none => rfl
      | some x =>
        rcases hVn a x hv with hx | hx | hx
        · rw [h.apartV j q a hq1 ha] at hx; simp at hx
        · have := OB.own_lt (h.sat j q hq1) ha; omega
        · exact absurd hx (h.apart j i q o a hj hq1 hi ha)
    · subst he; subst hj
      exact hVo a ha
  · intro j q a hq ha
    rcases hget j q hq with ⟨hj, hq1⟩ | ⟨hj, he⟩
    · exact h.apartF j q a hq1 ha
    · subst he; subst hj
      rcases hown a ha with ha | ha
      · exact h.apartF j o a hi ha
      · exact hfo a ha
  · intro j k q q' a hjk hq hq' ha ha'
    rcases hget j q hq with ⟨hj, hq1⟩ | ⟨hj, he⟩
    · rcases hget k q' hq' with ⟨hk, hq1'⟩ | ⟨hk, he'⟩
      · exact h.apart j k q q' a hjk hq1 hq1' ha ha'
      · subst he'; subst hk
        rcases hown a ha' with ha' | ha'
        · exact h.apart j k q o a hjk hq1 hi ha ha'
        · have := OB.own_lt (h.sat j q hq1) ha; omega
    · subst he; subst hj
      rcases hget k q' hq' with ⟨hk, hq1'⟩ | ⟨hk, he'⟩
      · rcases hown a ha with ha | ha
        · exact h.apart j k o q' a hjk hi hq1' ha ha'
        · have := OB.own_lt (h.sat k q' hq1') ha'; omega
      · exact hjk hk.symm

/-- The world has turned in the block i of the call's own, and in new ones. -/
theorem WOk.upd {V0 V : View} {FR : Frm} {env : List Nat} {M : List OB} {w w' : World} (h : WOk V0 FR env V M w) {i : Nat} {o o' : OB} (hi : M[i]? = some o) (hne : o' ≠ .gone)
    (e1 : w'.os = w.os) (e2 : w'.tape = w.tape) (e3 : w'.output = w.output) (hother : ∀ k, k < w.heap.size → ¬ o.own (envAt env i) ⟨k, 0, none⟩ → w'.heap[k]? = w.heap[k]?)
    (hsat : o'.sat env (M.set i o') w' (envAt env i)) (hown : ∀ a, o'.own (envAt env i) a → o.own (envAt env i) a ∨ w.heap.size ≤ a.block) : WOk V0 FR env V (M.set i o') w' := by
  have hb : ∀ a x, V a = some x → a.block < w.heap.size := fun a x hx => World.block_lt_of_cell? w a (h.holds a x hx)
  refine h.updV hi hne e1 e2 e3 hother hsat hown (VLe.refl V) ?_ (fun a x hx => .inl hx) ?_
  · intro a x hx
    have hc := h.holds a x hx
    have := hother a.block (hb a x hx) (fun ho => by have := h.apartV i o a hi (OB.own_block (a := ⟨a.block, 0, none⟩) (a' := a) rfl ho); rw [this] at hx; simp at hx)
    unfold World.cell? at hc ⊢
    rw [this]
    exact hc
  · intro a ha
    rcases hown a ha with ha | ha
    · exact h.apartV i o a hi ha
    · cases hv : V a with
      | none => rfl
      | some x => have := hb a x hv; omega

/-- Something new of the call's own. -/
theorem WOk.add {V0 V : View} {FR : Frm} {env : List Nat} {M : List OB} {w w' : World} (h : WOk V0 FR env V M w) {o' : OB} (b : Nat)
    (e1 : w'.os = w.os) (e2 : w'.tape = w.tape) (e3 : w'.output = w.output) (hother : ∀ k, k < w.heap.size → w'.heap[k]? = w.heap[k]?)
    (hsat : o'.sat (env ++ [b]) (M ++ [o']) w' b) (hown : ∀ a, o'.own b a → w.heap.size ≤ a.block) : WOk V0 FR (env ++ [b]) V (M ++ [o']) w' := by
  have hb : ∀ a x, V a = some x → a.block < w.heap.size := fun a x hx => World.block_lt_of_cell? w a (h.holds a x hx)
  have hf : ∀ b o, FR.blk b = some o → b < w.heap.size := fun b o ho => (Array.getElem?_eq_some_iff.1 (h.frame b o ho)).1
  have hold : ∀ (i : Nat) (o : OB), M[i]? = some o → envAt (env ++ [b]) i = envAt env i := fun i o ho => envAt_append (by rw [h.len]; exact (List.getElem?_eq_some_iff.1 ho).1)
  have hnew : envAt (env ++ [b]) M.length = b := by rw [← h.len]; exact envAt_new env b
  have hget : ∀ (i : Nat) (o : OB), (M ++ [o'])[i]? = some o → M[i]? = some o ∨ (i = M.length ∧ o = o') := by
    intro i o ho
    rw [List.getElem?_append] at ho
    split at ho
    · exact .inl ho
    · rename_i hi
      right
      have : i - M.length = 0 := by
        refine Classical.byContradiction fun hc => ?_
        obtain ⟨k, hk⟩ : ∃ k, i - M.length = k + 1 := ⟨i - M.length - 1, by omega⟩
        rw [hk] at ho
        simp at ho
      rw [this] at ho
      simp at ho
      exact ⟨by omega, ho.symm⟩
  refine ⟨e1.trans h.os, e2.trans h.tape, e3.trans h.output, fun b o ho => by rw [hother b (hf b o ho)]; exact h.frame b o ho, h.le, ?_, h.fresh, by simp [h.len], ?_, ?_, ?_, ?_⟩
  · intro a x hx
    have hc := h.holds a x hx
    unfold World.cell? at hc ⊢
    rw [hother _ (hb a x hx)]
    exact hc
  · intro i o ho
    rcases hget i o ho with ho1 | ⟨hi, he⟩
    · exact OB.sat_of (hold i o ho1) (fun x hx => den_append h.len hx) (fun x => SV.ok_mono fun _ => alive_snoc _) (h.sat i o ho1) fun k hk => hother k (OB.own_lt (h.sat i o ho1) hk)
    · subst he; subst hi
      rw [hnew]
      exact hsat
  · intro i o a ho ha
    rcases hget i o ho with ho1 | ⟨hi, he⟩
    · rw [hold i o ho1] at ha
      exact h.apartV i o a ho1 ha
    · subst he; subst hi
      rw [hnew] at ha
      have := hown a ha
      cases hv : V a with
      | none => rfl
      | some x => have := hb a x hv; omega
  · intro i o a ho ha
    rcases hget i o ho with ho1 | ⟨hi, he⟩
    · rw [hold i o ho1] at ha
      exact h.apartF i o a ho1 ha
    · subst he; subst hi
      rw [hnew] at ha
      have := hown a ha
      cases hv : FR.blk a.block with
      | none => rfl
      | some x => have := hf _ x hv; omega
  · intro i j o q a hij ho hq ha ha'
    rcases hget i o ho with ho1 | ⟨hi, he⟩
    · rw [hold i o ho1] at ha
      rcases hget j q hq with hq1 | ⟨hj, he'⟩
      · rw [hold j q hq1] at ha'
        exact h.apart i j o q a hij ho1 hq1 ha ha'
      · subst he'; subst hj
        rw [hnew] at ha'
        have := hown a ha'
        have := OB.own_lt (h.sat i o ho1) ha
        omega
    · subst he; subst hi
      rw [hnew] at ha
      have := hown a ha
      rcases hget j q hq with hq1 | ⟨hj, he'⟩
      · rw [hold j q hq1] at ha'
        have := OB.own_lt (h.sat j q hq1) ha'
        omega
      · exact hij hj.symm

/-- What was the call's own is laid open, and is written no more. -/
theorem WOk.freeze {V0 V : View} {FR : Frm} {env : List Nat} {M : List OB} {w : World} (h : WOk V0 FR env V M w) {i n c e sz : Nat} {a : Option Addr} {cs : List Value} (hi : M[i]? = some (.row (.slice a n c) cs e sz)) :
    ∃ V', VLe V V' ∧ (cs ≠ [] → RdAt V' a 0 cs) ∧ WOk V0 FR env V' (M.set i .unk) w := by
  obtain ⟨n', hrow⟩ := h.sat i _ hi
  have hcell : ∀ p : Addr, (Value.slice a n c).ownBlock = some p.block → p.spot = none → ∀ y, cs[p.off]? = some y → w.cell? p = some y := by
    intro p hp hs y hy
    have := hrow.cells hp p.off y hy
    rw [Addr.add_lit] at this
    cases p
    simp only at hs
    subst hs
    simpa using this
  refine ⟨fun p => match V p with
    | some y => some y
    | none => if (Value.slice a n c).ownBlock = some p.block ∧ p.spot = none then cs[p.off]? else none, ?_, ?_, ?_⟩
  · intro p y hy
    simp only [hy]
  · intro hne
    rcases hrow.2 with ⟨hv, hn⟩ | ⟨g, cap, cur, hv, _⟩
    · have : cs.length = 0 := by rw [hrow.1, hn]; simp
      exact absurd (List.length_eq_zero_iff.1 this) hne
    · simp only [Value.slice.injEq] at hv
      obtain ⟨rfl, _, _⟩ := hv
      refine ⟨g, 0, rfl, fun j y hy => ?_⟩
      have : V ⟨g, 0 + 0 + j, none⟩ = none := h.apartV i _ ⟨g, 0 + 0 + j, none⟩ hi rfl
      simp only [this, Value.ownBlock, and_self, if_true]
      simpa using hy
  · have hget : ∀ (j : Nat) (q : OB), (M.set i .unk)[j]? = some q → (j ≠ i ∧ M[j]? = some q) ∨ (j = i ∧ q = .unk) := by
      intro j q hq
      rw [List.getElem?_set] at hq
      split at hq
      · rename_i hj
        subst hj
        split at hq
        · simp only [Option.some.injEq] at hq
          exact .inr ⟨rfl, hq.symm⟩
        · simp at hq
      · rename_i hj
        exact .inl ⟨fun e => hj e.symm, hq⟩
    have hgown : ∀ (j : Nat) (q : OB) p, (M.set i .unk)[j]? = some q → q.own (envAt env j) p → j ≠ i ∧ M[j]? = some q := by
      intro j q p hq hp
      rcases hget j q hq with ⟨hj, hq1⟩ | ⟨hj, he⟩
      · exact ⟨hj, hq1⟩
      · subst he
        simp [OB.own, Value.ownBlock] at hp
    refine ⟨h.os, h.tape, h.output, h.frame, fun p y hy => by simp only [h.le p y hy], ?_, ?_, by simp [h.len], ?_, ?_, ?_, ?_⟩
    · intro p y hy
      try simp only at hy
      split at hy
      · rename_i z hz
        simp only [Option.some.injEq] at hy; subst hy
        exact h.holds p _ hz
      · split at hy
        · rename_i hp
          exact hcell p hp.1 hp.2 y hy
        · simp at hy
    · intro p y hy
      try simp only at hy
      split at hy
      · rename_i z hz
        simp only [Option.some.injEq] at hy; subst hy
        exact h.fresh p _ hz
      · split at hy
        · rename_i hp
          exact .inr (h.apartF i _ p hi hp.1)
        · simp at hy
    · intro j q hq
      rcases hget j q hq with ⟨hj, hq1⟩ | ⟨hj, he⟩
      · exact OB.sat_of rfl (fun _ _ => rfl) (fun x => SV.ok_mono fun _ => alive_set (by simp)) (h.sat j q hq1) fun k hk => rfl
      · subst he
        exact ⟨0, World.ownsRow_nil _ _ _ _⟩
    · intro j q p hq hp
      obtain ⟨hj, hq⟩ := hgown j q p hq hp
      simp only [h.apartV j q p hq hp]
      rw [if_neg]
      rintro ⟨h1, _⟩
      exact h.apart j i q _ p hj hq hi hp h1
    · intro j q p hq hp
      obtain ⟨hj, hq⟩ := hgown j q p hq hp
      exact h.apartF j q p hq hp
    · intro j k q q' p hjk hq hq' hp hp'
      obtain ⟨_, hq⟩ := hgown j q p hq hp
      obtain ⟨_, hq'⟩ := hgown k q' p hq' hp'
      exact h.apart j k q q' p hjk hq hq' hp hp'

/-! ### Rules that stand at no operation -/

theorem DOk.set_unk {DF : DFr} {env : List Nat} {V : View} {M : List OB} {i : Nat} {b : OB} {k : List Kt} (hk : noOps k = true) : DOk DF env V (M.set i b) k := noOps_D hk _ _ _ _

section
variable {C : Ctx}

/-- A row that is still empty. -/
theorem Exec.row0 (e sz : Nat) {k : List Kt} {L : Fr} {M M' : List OB} {V : View} {i : Nat} (hs : snocN M (.row (.slice none 0 0) [] e sz) 0 = some (M', i)) (h : Exec C ⟨k, L, M'⟩ V) : Exec C ⟨k, L, M⟩ V := by
  obtain ⟨rfl, _⟩ := snocN_sound hs
  refine Exec.of fun FR DF env t w h1 h2 h3 h4 h5 => ?_
  have hW := h2.add (w' := w) (o' := .row (.slice none 0 0) [] e sz) 0 rfl rfl rfl (fun _ _ => rfl) ⟨0, World.ownsRow_nil _ _ _ _⟩ (fun a ha => by simp [OB.own, Value.ownBlock] at ha)
  exact h.to FR DF (env ++ [0]) t w h1 hW (h3.mono h2.len _ _) (h4.mono h2.len _ _) (DOk.grow ⟨_, rfl⟩ (VLe.refl V) ⟨_, rfl⟩ h5)

/-- No region whose order is drawn is under way. -/
def plainK : List Kt → Bool
  | .draw _ :: _ => false
  | .ops _ _ _ :: .draw _ :: _ => false
  | _ => true

theorem plainK_D {k : List Kt} (hk : plainK k = true) (DF : DFr) (env : List Nat) (V : View) (M : List OB) : DOk DF env V M k := by
  unfold plainK at hk
  split at hk
  · simp at hk
  · simp at hk
  · rename_i h1 h2
    unfold DOk
    split
    · exact absurd rfl (h1 _ _)
    · exact absurd rfl (h2 _ _ _ _ _)
    · trivial

/-- Block i may be laid open here. -/
def frzOk (i : Nat) : List Kt → Bool
  | .ops _ _ _ :: k => wrOk i k
  | k => plainK k

theorem frzOk_D {i : Nat} {k : List Kt} (hk : frzOk i k = true) {DF : DFr} {env : List Nat} {V V' : View} {M : List OB} {b : OB} (hv : VLe V V') (h : DOk DF env V M k) : DOk DF env V' (M.set i b) k := by
  unfold frzOk at hk
  split at hk
  · exact DOk.grow (M := M.set i b) ⟨[], by simp⟩ hv ⟨[], by simp⟩ (DOk.write hk h)
  · exact plainK_D hk _ _ _ _

/-- A row is laid open: it is written no more. -/
theorem Exec.frz (i : Nat) {k : List Kt} {L : Fr} {M M' : List OB} {V : View} {n c e sz : Nat} {a : Option Addr} {cs : List Value} (hk : frzOk i k = true) (hi : nth M i = some (.row (.slice a n c) cs e sz)) (hs : setN M i .unk = some M')
    (h : ∀ V', VLe V V' → (cs ≠ [] → RdAt V' a 0 cs) → n ≤ c → Exec C ⟨k, L, M'⟩ V') : Exec C ⟨k, L, M⟩ V := by
  obtain ⟨_, rfl⟩ := setN_sound hs
  rw [nth_eq] at hi
  refine Exec.of fun FR DF env t w h1 h2 h3 h4 h5 => ?_
  obtain ⟨V', v1, v2, hW⟩ := h2.freeze hi
  exact (h V' v1 v2 (rowSat_some (h2.sat i _ hi)).2.1).to FR DF env t w h1 hW (h3.set (by simp)) (h4.set (by simp)) (frzOk_D hk v1 h5)

def refOk (n : Nat) : SV → Bool
  | .ptr i _ => Nat.blt i n
  | .slc i _ _ _ => Nat.blt i n
  | _ => true

def refsOk (n : Nat) : Fr → Bool
  | [] => true
  | (_, x) :: r => match refOk n x with
    | true => refsOk n r
    | false => false

def allV : List SV → Bool
  | [] => true
  | .v _ :: r => allV r
  | _ => false

def rowsOnly : List OB → Bool
  | [] => true
  | .row _ _ _ _ :: r => rowsOnly r
  | .blk cs _ :: r => match allV cs with
    | true => rowsOnly r
    | false => false
  | _ => false

theorem allV_mem : ∀ {cs : List SV}, allV cs = true → ∀ x ∈ cs, ∃ a, x = .v a
  | [], _, x, hx => by simp at hx
  | .v a :: r, h, x, hx => by
    simp only [List.mem_cons] at hx
    rcases hx with rfl | hx
    · exact ⟨a, rfl⟩
    · exact allV_mem (cs := r) h x hx
  | .ptr _ _ :: r, h, x, hx => by simp [allV] at h
  | .slc _ _ _ _ :: r, h, x, hx => by simp [allV] at h
  | .el _ _ :: r, h, x, hx => by simp [allV] at h

theorem allV_ok {M : List OB} : ∀ {cs : List SV}, allV cs = true → ∀ x ∈ cs, x.ok M
  | [], _, x, hx => by simp at hx
  | .v a :: r, h, x, hx => by
    simp only [List.mem_cons] at hx
    rcases hx with rfl | hx
    · trivial
    · exact allV_ok (cs := r) h x hx
  | .ptr _ _ :: r, h, x, hx => by simp [allV] at h
  | .slc _ _ _ _ :: r, h, x, hx => by simp [allV] at h
  | .el _ _ :: r, h, x, hx => by simp [allV] at h

theorem alive_take {M : List OB} {n i : Nat} (h : alive M i) (hn : i < n) : alive (M.take n) i := by
  obtain ⟨o, h1, h2⟩ := h
  exact ⟨o, by rw [List.getElem?_take, if_pos hn]; exact h1, h2⟩

theorem ok_take {M : List OB} {n : Nat} : ∀ {x : SV}, x.ok M → refOk n x = true → x.ok (M.take n)
  | .v _, _, _ => trivial
  | .ptr _ _, h, hr => alive_take h (by simpa [refOk, Nat.blt_eq] using hr)
  | .slc _ _ _ _, h, hr => alive_take h (by simpa [refOk, Nat.blt_eq] using hr)
  | .el _ _, h, _ => h

theorem refsOk_look {n : Nat} : ∀ {L : Fr} {s : Nat} {x : SV}, refsOk n L = true → lookL L s = some x → refOk n x = true
  | [], s, x, _, h => by simp [lookL] at h
  | (d, y) :: L, s, x, hr, h => by
    simp only [refsOk] at hr
    split at hr
    · rename_i hy
      rw [lookL_cons] at h
      split at h
      · simp only [Option.some.injEq] at h; subst h; exact hy
      · exact refsOk_look hr h
    · simp at hr

theorem rowsOnly_get : ∀ {M : List OB} {i : Nat} {o : OB}, rowsOnly M = true → M[i]? = some o → (∃ x cs e sz, o = .row x cs e sz) ∨ ∃ cs ty, o = .blk cs ty ∧ allV cs = true
  | [], i, o, _, h => by simp at h
  | .gone :: M, i, o, hr, h => by simp [rowsOnly] at hr
  | .row x cs e sz :: M, 0, o, hr, h => by
    simp at h
    exact .inl ⟨x, cs, e, sz, h.symm⟩
  | .row x cs e sz :: M, i + 1, o, hr, h => by
    simp at h
    exact rowsOnly_get (M := M) hr h
  | .blk cs ty :: M, 0, o, hr, h => by
    simp at h
    simp only [rowsOnly] at hr
    split at hr
    · rename_i hv
      exact .inr ⟨cs, ty, h.symm, hv⟩
    · simp at hr
  | .blk cs ty :: M, i + 1, o, hr, h => by
    simp at h
    simp only [rowsOnly] at hr
    split at hr
    · exact rowsOnly_get (M := M) hr h
    · simp at hr

/-- Own memory that is not wanted any more is let go: the first n stay. -/
theorem Exec.cut (n : Nat) (L' : Fr) {k : List Kt} {L : Fr} {M M' : List OB} {V : View} (hk : noOps k = true) (hs : Sub L' L) (hr : refsOk n L' = true) (hM : takeL n M = M') (hrow : rowsOnly M' = true)
    (h : Exec C ⟨k, L', M'⟩ V) : Exec C ⟨k, L, M⟩ V := by
  have htk : ∀ (n : Nat) (l : List OB), takeL n l = l.take n := by
    intro n
    induction n with
    | zero => intro l; simp [takeL]
    | succ n ih =>
      intro l
      cases l with
      | nil => simp [takeL]
      | cons a l => simp [takeL, ih]
  rw [htk] at hM
  subst hM
  refine Exec.of fun FR DF env t w h1 h2 h3 h4 h5 => ?_
  have hget : ∀ (i : Nat) (o : OB), (M.take n)[i]? = some o → M[i]? = some o ∧ i < n := by
    intro i o ho
    rw [List.getElem?_take] at ho
    split at ho
    · rename_i hi; exact ⟨ho, hi⟩
    · simp at ho
  have henv : ∀ i, i < n → envAt (env.take n) i = envAt env i := fun i hi => by simp [envAt, List.getElem?_take, hi]
  have hden : ∀ x, refOk n x = true → den (env.take n) x = den env x := by
    intro x hx
    cases x with
    | v _ => rfl
    | el _ _ => rfl
    | ptr i o => simp only [den]; rw [henv i (by simpa [refOk, Nat.blt_eq] using hx)]
    | slc i o _ _ => simp only [den]; rw [henv i (by simpa [refOk, Nat.blt_eq] using hx)]
  have hW : WOk C.V0 FR (env.take n) V (M.take n) w := by
    refine ⟨h2.os, h2.tape, h2.output, h2.frame, h2.le, h2.holds, h2.fresh, by simp [h2.len], ?_, ?_, ?_, ?_⟩
    · intro i o ho
      obtain ⟨g1, g2⟩ := hget i o ho
      have := h2.sat i o g1
      rw [henv i g2]
      rcases rowsOnly_get hrow ho with ⟨x, cs, e, sz, rfl⟩ | ⟨cs, ty, rfl, hv⟩
      · exact this
      · refine ⟨?_, allV_ok hv⟩
        rw [this.1]
        congr 3
        refine List.map_congr_left fun y hy => ?_
        cases y with
        | v _ => rfl
        | _ => exact absurd (allV_mem hv _ hy) (by simp)
    · intro i o a ho ha
      obtain ⟨g1, g2⟩ := hget i o ho
      rw [henv i g2] at ha
      exact h2.apartV i o a g1 ha
    · intro i o a ho ha
      obtain ⟨g1, g2⟩ := hget i o ho
      rw [henv i g2] at ha
      exact h2.apartF i o a g1 ha
    · intro i j o q a hij ho hq ha ha'
      obtain ⟨g1, g2⟩ := hget i o ho
      obtain ⟨g3, g4⟩ := hget j q hq
      rw [henv i g2] at ha
      rw [henv j g4] at ha'
      exact h2.apart i j o q a hij g1 g3 ha ha'
  refine h.to0 hk h1 hW (fun s x hx => ?_) DF
  obtain ⟨k1, k2⟩ := h3 s x (hs.look s x hx)
  have hrx := refsOk_look hr hx
  exact ⟨by rw [hden x hrx]; exact k1, ok_take k2 hrx⟩

end
end Go.Proofs.Ytkbldnpifmjipaa
