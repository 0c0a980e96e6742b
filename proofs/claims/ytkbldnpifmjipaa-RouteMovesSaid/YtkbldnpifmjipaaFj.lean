/-
  A FRAMEWORK FOR PROOFS ABOUT CALLS (part j): the rules for calls, strings by index, elements of slices.
  Conditions: the table of types is the program's (TOk).
-/
import Derived.Test.YtkbldnpifmjipaaFi
set_option linter.all false
namespace Go.Proofs.Ytkbldnpifmjipaa

def appV : List Value → List Value → Option (List Value)
  | [], l => some l
  | a :: r, l => match appV r l with
    | some q => some (a :: q)
    | none => none

theorem appV_sound : ∀ {a b r : List Value}, appV a b = some r → r = a ++ b
  | [], b, r, h => by simp only [appV, Option.some.injEq] at h; simp [h]
  | x :: a, b, r, h => by
    simp only [appV] at h
    split at h
    · rename_i q hq
      simp only [Option.some.injEq] at h; subst h
      simp [appV_sound hq]
    · simp at h

def evs (od : Look) (G : List (Nat × Bool)) : List Operand → Option (List Value)
  | [] => some []
  | x :: l => match ev od G x with
    | some (.v a) => match evs od G l with
      | some r => some (a :: r)
      | none => none
    | _ => none

theorem evs_sound {env : List Nat} {M : List OB} {t : Array Value} {od : Look} (hO : Tells env M t od) {G : List (Nat × Bool)} (hG : condT t G) :
    ∀ {as : List Operand} {args : List Value}, evs od G as = some args → as.map (⟨t, []⟩ : Act).eval = args
  | [], args, h => by simp only [evs, Option.some.injEq] at h; simp [h]
  | x :: l, args, h => by
    simp only [evs] at h
    split at h <;> try (simp at h; done)
    rename_i a ha
    split at h <;> try (simp at h; done)
    rename_i r hr
    simp only [Option.some.injEq] at h; subst h
    rw [List.map_cons, ev_sound hO hG ha, evs_sound hO hG hr]
    rfl

/-- A call: the function, its arguments. -/
def callOf (od : Look) (G : List (Nat × Bool)) (op : Op) : Option (Nat × List Value) :=
  match op with
  | .call ⟨.value fx, ⟨as⟩, _⟩ => match ev od G fx with
    | some (.v (.func (.func f) ⟨fi⟩ ⟨ca⟩)) => match evs od G as with
      | some args => match appV fi args with
        | some a1 => match appV a1 ca with
          | some full => some (f, full)
          | none => none
        | none => none
      | none => none
    | _ => none
  | _ => none

theorem callOf_wp {P : Program} {env : List Nat} {M : List OB} {t : Array Value} {od : Look} (hO : Tells env M t od) {G : List (Nat × Bool)} (hG : condT t G) {o : Oper} {f : Nat} {args : List Value}
    (h : callOf od G o.op = some (f, args)) (hf : IsFn P f) (w : World) : (execOp (⟨t, []⟩ : Act).eval o).run P w = .ok (.enter f ⟨args⟩) w := by
  unfold callOf at h
  split at h <;> try (simp at h; done)
  rename_i fx as tys hop
  split at h <;> try (simp at h; done)
  rename_i f' fi ca hfx
  split at h <;> try (simp at h; done)
  rename_i args' has
  split at h <;> try (simp at h; done)
  rename_i a1 ha1
  split at h <;> try (simp at h; done)
  rename_i full hfull
  simp only [Option.some.injEq, Prod.mk.injEq] at h
  obtain ⟨rfl, rfl⟩ := h
  obtain ⟨fn, h1, h2, h3⟩ := hf
  have e1 := ev_sound hO hG hfx
  have e2 := evs_sound hO hG has
  have e3 := appV_sound ha1
  have e4 := appV_sound hfull
  unfold execOp
  simp only [hop, resolve, e1, den, Deferred.ofValue, Sem.run_bind, Sem.run_pure, Result.andThen_ok, invoke, callFunc, run_program, h1, h3, Bool.false_eq_true, if_false, h2]
  congr 2
  apply Array.ext'
  simp [e4, e3, ← e2]

section
variable {C : Ctx} (hT : TOk C.P C.T)

/-- A CALL whose value is known and needs no new memory. -/
theorem Exec.callS {o : Oper} {rest all : List Oper} {lr : List REnt} {k : List Kt} {L : Fr} {M : List OB} {V : View} {G : List (Nat × Bool)} {d f : Nat} {args : List Value} (x : Value)
    (hh : headOf C.nt all lr L o = some (G, d)) (hc : callOf (opd L lr) G o.op = some (f, args)) (hs : Imp lr G (Spec C.P f args V fun _ v => v = x))
    (h : Exec C ⟨.ops rest all (⟨d, G, .v x, d⟩ :: lr) :: k, nextL G d (.v x) L, M⟩ V) : Exec C ⟨.ops (o :: rest) all lr :: k, L, M⟩ V := by
  refine Exec.yields (x := .v x) hh (fun FR env t w h2 h3 h4 hG => ⟨trivial, fun K Q hK => ?_⟩) h
  obtain ⟨hfn, hcall⟩ := hs.out h4 hG
  unfold Oper.wp
  rw [callOf_wp (opd_sound h3 h4) hG hc hfn w]
  refine (hcall w h2.holds).mono fun e w' ⟨v, V', p1, p2, p3, p4, p5, p6⟩ => ?_
  subst p1; subst p6
  refine hK w' ?_
  have hlt : ∀ b o, FR.blk b = some o → b < w.heap.size := fun b o ho => (Array.getElem?_eq_some_iff.1 (h2.frame b o ho)).1
  refine ⟨p2.os.trans h2.os, p2.tape.trans h2.tape, p2.output.trans h2.output, fun b o ho => by rw [p2.block b (hlt b o ho)]; exact h2.frame b o ho, h2.le, fun a y hy => p4 a y (p3 a y hy), h2.fresh, h2.len, ?_, h2.apartV, h2.apartF, h2.apart⟩
  intro i ob hob
  have hs := h2.sat i ob hob
  cases ob with
  | gone => trivial
  | blk cs ty => exact ⟨by rw [p2.block _ (Array.getElem?_eq_some_iff.1 hs.1).1]; exact hs.1, hs.2⟩
  | row y cs e sz => exact rowSat_of hs fun g hg => p2.block _ (OB.own_lt (env := env) (M := M) (b := 0) (o := .row y cs e sz) hs (a := ⟨g, 0, none⟩) hg)

/-- A CALL whose value is told by the contract, with the memory that it made. -/
theorem Exec.call {o : Oper} {rest all : List Oper} {lr : List REnt} {k : List Kt} {L : Fr} {M : List OB} {V : View} {d f : Nat} {args : List Value} {R : View → Value → Prop}
    (hh : headOf C.nt all lr L o = some ([], d)) (hc : callOf (opd L lr) [] o.op = some (f, args)) (hs : Spec C.P f args V R)
    (h : ∀ V' v, VLe V V' → R V' v → Exec C ⟨.ops rest all (⟨d, [], .v v, d⟩ :: lr) :: k, (d, .v v) :: L, M⟩ V') : Exec C ⟨.ops (o :: rest) all lr :: k, L, M⟩ V := by
  refine Exec.of fun FR DF env t w h1 h2 h3 h4 h5 => ?_
  obtain ⟨hg, hd, hn, hf, _⟩ := headOf_some hh
  have hdt : d < t.size := by rw [h1]; simpa [Nat.blt_eq] using hn
  have hw := guard_sound h4 hg
  show wpList C.P ⟨all⟩ (post C FR DF k) (o :: rest) ⟨t, []⟩ w
  refine wpList_want ?_
  rw [if_pos (hw.2 trivial)]
  obtain ⟨hfn, hcall⟩ := hs
  unfold Oper.wp
  rw [callOf_wp (opd_sound h3 h4) (G := []) trivial hc hfn w]
  refine (hcall w h2.holds).mono fun e w' ⟨v, V', p1, p2, p3, p4, p5, p6⟩ => ?_
  subst p1
  have hlt : ∀ b o, FR.blk b = some o → b < w.heap.size := fun b o ho => (Array.getElem?_eq_some_iff.1 (h2.frame b o ho)).1
  have hW' : WOk C.V0 FR env V' M w' := by
    refine ⟨p2.os.trans h2.os, p2.tape.trans h2.tape, p2.output.trans h2.output, fun b o ho => by rw [p2.block b (hlt b o ho)]; exact h2.frame b o ho, h2.le.trans p3, p4, ?_, h2.len, ?_, ?_, h2.apartF, h2.apart⟩
    · intro a y hy
      rcases p5 a y hy with hy | hy
      · exact h2.fresh a y hy
      · right
        cases hb : FR.blk a.block with
        | none => rfl
        | some o => have := hlt _ o hb; omega
    · intro i ob hob
      have hs := h2.sat i ob hob
      cases ob with
      | gone => trivial
      | blk cs ty => exact ⟨by rw [p2.block _ (Array.getElem?_eq_some_iff.1 hs.1).1]; exact hs.1, hs.2⟩
      | row y cs e sz => exact rowSat_of hs fun g hg => p2.block _ (OB.own_lt (env := env) (M := M) (b := 0) (o := .row y cs e sz) hs (a := ⟨g, 0, none⟩) hg)
    · intro i ob a hob ha
      have := OB.own_lt (h2.sat i ob hob) ha
      cases hv : V' a with
      | none => rfl
      | some y =>
        rcases p5 a y hv with hy | hy
        · rw [h2.apartV i ob a hob ha] at hy; simp at hy
        · omega
  simp only [Act.put, hd]
  exact (h V' v p3 p6).to FR DF env (t.setIfInBounds d v) w' (by simpa using h1) hW' (h3.put (x := .v v) hdt trivial) (h4.put hdt hf (fun _ => rfl) (fun hn => absurd trivial hn) rfl (.inl rfl) (fun _ => trivial)) (DOk.grow ⟨[], by simp⟩ p3 ⟨[], by simp⟩ h5.same)

/-! ### Strings by index -/

def byteAt (l : List UInt8) (n : Nat) : Int := ((l[n]?.getD 0).toNat : Int)

def idxOf (T : List TyD) (od : Look) (G : List (Nat × Bool)) (op : Op) : Option (List UInt8 × Int) :=
  match op with
  | .index t x i => match nth T t with
    | some d => match d.size, d.und with
      | _ + 1, .str => match ev od G x, ev od G i with
        | some (.v (.string ⟨⟨l⟩⟩)), some (.v (.int _ n)) => some (l, n)
        | _, _ => none
      | _, _ => none
    | none => none
  | _ => none

include hT in
theorem Exec.idx {o : Oper} {rest all : List Oper} {lr : List REnt} {k : List Kt} {L : Fr} {M : List OB} {V : View} {G : List (Nat × Bool)} {d : Nat} {l : List UInt8} {n : Int}
    (hh : headOf C.nt all lr L o = some (G, d)) (hc : idxOf C.T (opd L lr) G o.op = some (l, n)) (hb : Imp lr G (0 ≤ n ∧ n < l.length))
    (h : Exec C ⟨.ops rest all (⟨d, G, .v (.int .u8 (byteAt l n.toNat)), d⟩ :: lr) :: k, nextL G d (.v (.int .u8 (byteAt l n.toNat))) L, M⟩ V) : Exec C ⟨.ops (o :: rest) all lr :: k, L, M⟩ V := by
  refine Exec.yields (x := .v (.int .u8 (byteAt l n.toNat))) hh (fun FR env t w h2 h3 h4 hG => ⟨trivial, fun K Q hK => ?_⟩) h
  obtain ⟨b1, b2⟩ := hb.out h4 hG
  unfold idxOf at hc
  split at hc <;> try (simp at hc; done)
  rename_i ty x i hop
  split at hc <;> try (simp at hc; done)
  rename_i dd hd
  split at hc <;> try (simp at hc; done)
  rename_i m hsz hu
  split at hc <;> try (simp at hc; done)
  rename_i l' k' n' hx hi
  simp only [Option.some.injEq, Prod.mk.injEq] at hc
  obtain ⟨rfl, rfl⟩ := hc
  refine wp_value ?_ (hK w h2)
  have hlt : n'.toNat < l'.length := by omega
  have e1 : ((⟨⟨l'⟩⟩ : ByteArray)[n'.toNat]? : Option UInt8) = some (l'[n'.toNat]'hlt) := by
    have : n'.toNat < (⟨⟨l'⟩⟩ : ByteArray).size := hlt
    rw [getElem?_pos (⟨⟨l'⟩⟩ : ByteArray) n'.toNat this]
    rfl
  unfold execOp
  simp only [hop, ev_sound (opd_sound h3 h4) hG hx, ev_sound (opd_sound h3 h4) hG hi, den, Instr.index, asIntOf, Sem.run_bind, Sem.run_pure, Result.andThen_ok, run_underlying (t_str hT hd (by omega) hu), if_pos b1, e1]
  simp [byteAt, hlt]

/-! ### Elements of slices -/

/-- From cell 'off' of the slice's array on, the view holds these cells. -/
def RdAt (V : View) (a : Option Addr) (off : Nat) (cs : List Value) : Prop := ∃ b o, a = some ⟨b, o, none⟩ ∧ ∀ j c, cs[j]? = some c → V ⟨b, o + off + j, none⟩ = some c

theorem RdAt.mono {V V' : View} {a : Option Addr} {off : Nat} {cs : List Value} (h : RdAt V a off cs) (hv : VLe V V') : RdAt V' a off cs := by
  obtain ⟨b, o, h1, h2⟩ := h
  exact ⟨b, o, h1, fun j c hj => hv _ _ (h2 j c hj)⟩

theorem RdAt.field {V : View} {a : Option Addr} {off : Nat} {cs : List Value} (h : RdAt V a off cs) (j : Nat) {c : Value} (hc : cs[j]? = some c) : RdAt V a (off + j) [c] := by
  obtain ⟨b, o, h1, h2⟩ := h
  refine ⟨b, o, h1, fun i c' hi => ?_⟩
  cases i with
  | zero =>
    simp only [List.getElem?_cons_zero, Option.some.injEq] at hi
    subst hi
    have := h2 j c hc
    simpa [Nat.add_assoc] using this
  | succ i => simp at hi

def iaOf (T : List TyD) (od : Look) (G : List (Nat × Bool)) (op : Op) : Option (Option Addr × Nat × Int × Nat) :=
  match op with
  | .indexAddr t x i => match nth T t with
    | some d => match d.size, d.und with
      | _ + 1, .slice e => match nth T e with
        | some ed => match ed.size with
          | 0 => none
          | sz + 1 => match ev od G x, ev od G i with
            | some (.v (.slice a len _)), some (.v (.int _ n)) => some (a, len, n, sz + 1)
            | _, _ => none
        | none => none
      | _, _ => none
    | none => none
  | _ => none

include hT in
theorem Exec.ia {o : Oper} {rest all : List Oper} {lr : List REnt} {k : List Kt} {L : Fr} {M : List OB} {V : View} {G : List (Nat × Bool)} {d : Nat} {a : Option Addr} {len sz : Nat} {n : Int}
    (hh : headOf C.nt all lr L o = some (G, d)) (hc : iaOf C.T (opd L lr) G o.op = some (a, len, n, sz)) (hb : Imp lr G (0 ≤ n ∧ n < len ∧ ∃ b o, a = some ⟨b, o, none⟩))
    (h : Exec C ⟨.ops rest all (⟨d, G, .el a (n.toNat * sz), d⟩ :: lr) :: k, nextL G d (.el a (n.toNat * sz)) L, M⟩ V) : Exec C ⟨.ops (o :: rest) all lr :: k, L, M⟩ V := by
  refine Exec.yields hh (fun FR env t w h2 h3 h4 hG => ?_) h
  obtain ⟨b1, b2, b, o', rfl⟩ := hb.out h4 hG
  refine ⟨⟨b, o', rfl⟩, fun K Q hK => ?_⟩
  unfold iaOf at hc
  split at hc <;> try (simp at hc; done)
  rename_i ty x i hop
  split at hc <;> try (simp at hc; done)
  rename_i dd hd
  split at hc <;> try (simp at hc; done)
  rename_i m e hsz hu
  split at hc <;> try (simp at hc; done)
  rename_i ed hed
  split at hc <;> try (simp at hc; done)
  rename_i sz' hesz
  split at hc <;> try (simp at hc; done)
  rename_i a' len' cap' k' n' hx hi
  simp only [Option.some.injEq, Prod.mk.injEq] at hc
  obtain ⟨rfl, rfl, rfl, rfl⟩ := hc
  refine wp_value ?_ (hK w h2)
  unfold execOp
  simp only [hop, ev_sound (opd_sound h3 h4) hG hx, ev_sound (opd_sound h3 h4) hG hi, den, Instr.indexAt, asIntOf, Sem.run_bind, Sem.run_pure, Result.andThen_ok, run_underlying (t_slice hT hd (by omega) hu)]
  rw [if_pos ⟨b1, b2⟩]
  simp only [Sem.run_bind, t_size hT w hed (by omega), Result.andThen_ok, Sem.run_pure, hesz]
  simp [Addr.add_lit]

def ldOf (T : List TyD) (od : Look) (G : List (Nat × Bool)) (op : Op) : Option (Option Addr × Nat × TyD) :=
  match op with
  | .load t x => match nth T t with
    | some d => match d.size with
      | 0 => none
      | _ + 1 => match ev od G x with
        | some (.el a off) => some (a, off, d)
        | some (.v (.pointer a)) => some (a, 0, d)
        | _ => none
    | none => none
  | _ => none

def cellsVal (agg : Bool) (cs : List Value) : Value :=
  match agg with
  | true => .agg ⟨cs⟩
  | false => match cs with
    | c :: _ => c
    | [] => undef

include hT in
theorem ld_runC {env : List Nat} {M : List OB} {t : Array Value} {od : Look} (hO : Tells env M t od) {G : List (Nat × Bool)} (hG : condT t G) {o : Oper} {a : Option Addr} {off : Nat} {dd : TyD} {cs : List Value} {x : Value}
    (hc : ldOf C.T od G o.op = some (a, off, dd)) {b o' : Nat} (ha : a = some ⟨b, o', none⟩) {w : World} (hcell : ∀ j v, cs[j]? = some v → w.cell? ⟨b, o' + off + j, none⟩ = some v)
    (hsz : cs.length = dd.size) (hx : cellsVal dd.und.agg cs = x) : (execOp (⟨t, []⟩ : Act).eval o).run C.P w = .ok (.value x) w := by
  subst ha
  unfold ldOf at hc
  split at hc <;> try (simp at hc; done)
  rename_i ty y hop
  split at hc <;> try (simp at hc; done)
  rename_i d' hd
  split at hc <;> try (simp at hc; done)
  rename_i m hs
  have fin : ∀ off', off' = off → d' = dd → (⟨t, []⟩ : Act).eval y = .pointer (some ⟨b, o' + off', none⟩) → (execOp (⟨t, []⟩ : Act).eval o).run C.P w = .ok (.value x) w := by
    rintro off' rfl rfl hy'
    have hload := run_loadCells_list (P := C.P) w ⟨b, o' + off', none⟩ cs (fun j v hv => by
      rw [Addr.add_lit]
      exact hcell j v hv)
    unfold execOp
    simp only [hop, hy', Instr.loadAt, Instr.sureAddr, loadVar, Sem.run_bind, Sem.run_pure, Result.andThen_ok, t_agg hT w hd (by omega)]
    unfold cellsVal at hx
    cases hag : d'.und.agg with
    | true =>
      rw [hag] at hx
      rw [hsz] at hload
      simp only [if_true, Sem.run_bind, t_size hT w hd (by omega), Result.andThen_ok, hload, Sem.run_pure, ← hx]
    | false =>
      rw [hag] at hx
      cases cs with
      | nil => simp at hsz; omega
      | cons c cs =>
        have hcell := hcell 0 c rfl
        simp only [Nat.add_zero] at hcell
        simp only at hx
        subst hx
        simp only [Bool.false_eq_true, if_false, run_load, hcell]
        rfl
  split at hc <;> try (simp at hc; done)
  · rename_i a' off' hy
    simp only [Option.some.injEq, Prod.mk.injEq] at hc
    obtain ⟨rfl, rfl, rfl⟩ := hc
    exact fin _ rfl rfl (by rw [ev_sound hO hG hy]; rfl)
  · rename_i a' hy
    simp only [Option.some.injEq, Prod.mk.injEq] at hc
    obtain ⟨rfl, rfl, rfl⟩ := hc
    exact fin _ rfl rfl (by rw [ev_sound hO hG hy]; rfl)

include hT in
theorem Exec.ld {o : Oper} {rest all : List Oper} {lr : List REnt} {k : List Kt} {L : Fr} {M : List OB} {V : View} {G : List (Nat × Bool)} {d : Nat} {a : Option Addr} {off : Nat} {dd : TyD} {cs : List Value} {x : Value}
    (hh : headOf C.nt all lr L o = some (G, d)) (hc : ldOf C.T (opd L lr) G o.op = some (a, off, dd)) (hb : Imp lr G (RdAt V a off cs)) (hsz : cs.length = dd.size) (hx : cellsVal dd.und.agg cs = x)
    (h : Exec C ⟨.ops rest all (⟨d, G, .v x, d⟩ :: lr) :: k, nextL G d (.v x) L, M⟩ V) : Exec C ⟨.ops (o :: rest) all lr :: k, L, M⟩ V := by
  refine Exec.yields (x := .v x) hh (fun FR env t w h2 h3 h4 hG => ⟨trivial, fun K Q hK => ?_⟩) h
  obtain ⟨b, o', ha, b3⟩ := hb.out h4 hG
  exact wp_value (ld_runC hT (opd_sound h3 h4) hG hc ha (fun j v hv => h2.holds _ _ (b3 j v hv)) hsz hx) (hK w h2)

/-- These cells stand from place 'off' on. -/
def CellsAt (cs : List Value) (off : Nat) (l : List Value) : Prop := ∀ j v, l[j]? = some v → cs[off + j]? = some v

theorem rowSat_cell {w : World} {e sz : Nat} {x : Value} {cs : List Value} (h : rowSat w e sz x cs) {b o : Nat} {n c : Nat} (hx : x = .slice (some ⟨b, o, none⟩) n c) {off : Nat} {l : List Value} (hl : CellsAt cs off l) :
    ∀ j v, l[j]? = some v → w.cell? ⟨b, o + off + j, none⟩ = some v := by
  obtain ⟨n', hrow⟩ := h
  intro j v hv
  have hcs := hl j v hv
  have ho : o = 0 := by
    rcases hrow.2 with ⟨hv, _⟩ | ⟨g, cap, cur, hv, _⟩
    · rw [hx] at hv; simp at hv
    · rw [hx] at hv; simp at hv; exact hv.1.2
  subst ho
  have := hrow.cells (g := b) (by rw [hx]; rfl) (off + j) v hcs
  rw [Addr.add_lit] at this
  simpa [Nat.add_assoc] using this

theorem rowSat_some {w : World} {e sz n c : Nat} {a : Option Addr} {cs : List Value} (h : rowSat w e sz (.slice a n c) cs) : cs.length = n * sz ∧ n ≤ c ∧ ((a = none ∧ n = 0 ∧ c = 0) ∨ ∃ g, a = some ⟨g, 0, none⟩) ∧ w.ownsRow 0 e sz (.slice a n c) n cs := by
  obtain ⟨n', hrow⟩ := h
  rcases hrow.2 with ⟨hv, hn⟩ | ⟨g, cap, cur, hv, k1, k2, k3, k4⟩
  · simp only [Value.slice.injEq] at hv
    obtain ⟨rfl, rfl, rfl⟩ := hv
    subst hn
    exact ⟨hrow.1, Nat.le_refl _, .inl ⟨rfl, rfl, rfl⟩, hrow⟩
  · simp only [Value.slice.injEq] at hv
    obtain ⟨rfl, rfl, rfl⟩ := hv
    exact ⟨hrow.1, k3, .inr ⟨g, rfl⟩, hrow⟩

include hT in
/-- A load out of a row of the call's own. -/
theorem Exec.ldR (i : Nat) {o : Oper} {rest all : List Oper} {lr : List REnt} {k : List Kt} {L : Fr} {M : List OB} {V : View} {G : List (Nat × Bool)} {d : Nat} {a : Option Addr} {off n c e sz : Nat} {dd : TyD} {cs l : List Value} {x : Value}
    (hh : headOf C.nt all lr L o = some (G, d)) (hc : ldOf C.T (opd L lr) G o.op = some (a, off, dd)) (hi : nth M i = some (.row (.slice a n c) cs e sz)) (hb : Imp lr G (CellsAt cs off l ∧ ∃ b o, a = some ⟨b, o, none⟩)) (hsz : l.length = dd.size) (hx : cellsVal dd.und.agg l = x)
    (h : Exec C ⟨.ops rest all (⟨d, G, .v x, d⟩ :: lr) :: k, nextL G d (.v x) L, M⟩ V) : Exec C ⟨.ops (o :: rest) all lr :: k, L, M⟩ V := by
  refine Exec.yields (x := .v x) hh (fun FR env t w h2 h3 h4 hG => ⟨trivial, fun K Q hK => ?_⟩) h
  rw [nth_eq] at hi
  obtain ⟨hl, b, o', rfl⟩ := hb.out h4 hG
  exact wp_value (ld_runC hT (opd_sound h3 h4) hG hc rfl (rowSat_cell (h2.sat i _ hi) rfl hl) hsz hx) (hK w h2)

end
end Go.Proofs.Ytkbldnpifmjipaa
