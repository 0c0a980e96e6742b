/-
  A FRAMEWORK FOR PROOFS ABOUT CALLS (part b): the plain operations do what 'pv' says.
  Conditions: the table of types is the program's (TOk).
-/
import Derived.Test.YtkbldnpifmjipaaFa
import Derived.Lib.Strings
namespace Go.Proofs.Ytkbldnpifmjipaa

def envAt (env : List Nat) (i : Nat) : Nat := (env[i]?).getD 0

def den (env : List Nat) : SV → Value
  | .v x => x
  | .ptr i off => .pointer (some ⟨envAt env i, off, none⟩)
  | .slc i off len cap => .slice (some ⟨envAt env i, off, none⟩) len cap
  | .el a off => .pointer (a.map fun p => ⟨p.block, p.off + off, none⟩)

/-- Block i of the call's own is there. -/
def alive (M : List OB) (i : Nat) : Prop := ∃ o, M[i]? = some o ∧ o ≠ .gone

/-- A symbolic value that makes sense over the call's own memory. -/
def SV.ok (M : List OB) : SV → Prop
  | .v _ => True
  | .ptr i _ => alive M i
  | .slc i _ _ _ => alive M i
  | .el a _ => ∃ b o, a = some ⟨b, o, none⟩

theorem tyD_some {P : Program} {t : Nat} {d : TyD} (h : tyD P t = some d) :
    ∃ i dd z, P.info? t = some i ∧ P.underlying t = some dd ∧ i.zero = some z ∧ d = ⟨i.size, i.bytes, udOf dd, z.cells.toList, eqOk P t dd⟩ := by
  unfold tyD at h
  split at h
  · rename_i i dd h1 h2
    split at h
    · rename_i z hz
      exact ⟨i, dd, z, h1, h2, hz, (Option.some.inj h).symm⟩
    · simp at h
  · simp at h

section
variable {P : Program} {T : List TyD} (hT : TOk P T) (w : World)
include hT

theorem t_size {t : Nat} {d : TyD} (h : nth T t = some d) (hs : d.size ≠ 0) : (sizeOf t).run P w = .ok d.size w := by
  obtain ⟨i, dd, z, h1, h2, h3, rfl⟩ := tyD_some (hT.1 t d h hs)
  simp [sizeOf, typeInfo, h1]

theorem t_und {t : Nat} {d : TyD} (h : nth T t = some d) (hs : d.size ≠ 0) : ∃ dd, P.underlying t = some dd ∧ udOf dd = d.und ∧ eqOk P t dd = d.eqok := by
  obtain ⟨i, dd, z, h1, h2, h3, rfl⟩ := tyD_some (hT.1 t d h hs)
  exact ⟨dd, h2, rfl, rfl⟩

theorem t_agg {t : Nat} {d : TyD} (h : nth T t = some d) (hs : d.size ≠ 0) : (isAgg t).run P w = .ok d.und.agg w := by
  obtain ⟨dd, h2, h3, _⟩ := t_und hT h hs
  unfold isAgg
  rw [Sem.run_bind, run_underlying h2 w]
  rw [← h3]
  cases dd <;> simp [udOf, UD.agg]

theorem t_str {t : Nat} {d : TyD} (h : nth T t = some d) (hs : d.size ≠ 0) (hu : d.und = .str) : P.underlying t = some .string := by
  obtain ⟨dd, h2, h3, _⟩ := t_und hT h hs
  rw [hu] at h3
  cases dd <;> simp [udOf] at h3
  exact h2

theorem t_bool {t : Nat} {d : TyD} (h : nth T t = some d) (hs : d.size ≠ 0) (hu : d.und = .bool) : P.underlying t = some .bool := by
  obtain ⟨dd, h2, h3, _⟩ := t_und hT h hs
  rw [hu] at h3
  cases dd <;> simp [udOf] at h3
  exact h2

theorem t_int {t : Nat} {d : TyD} {k : IntKind} (h : nth T t = some d) (hs : d.size ≠ 0) (hu : d.und = .int k) : P.underlying t = some (.int k) := by
  obtain ⟨dd, h2, h3, _⟩ := t_und hT h hs
  rw [hu] at h3
  cases dd <;> simp [udOf] at h3
  subst h3
  exact h2

theorem t_slice {t : Nat} {d : TyD} {e : Nat} (h : nth T t = some d) (hs : d.size ≠ 0) (hu : d.und = .slice e) : P.underlying t = some (.slice e) := by
  obtain ⟨dd, h2, h3, _⟩ := t_und hT h hs
  rw [hu] at h3
  cases dd <;> simp [udOf] at h3
  subst h3
  exact h2

theorem t_arr {t : Nat} {d : TyD} {n e : Nat} (h : nth T t = some d) (hs : d.size ≠ 0) (hu : d.und = .arr n e) : P.underlying t = some (.array n e) := by
  obtain ⟨dd, h2, h3, _⟩ := t_und hT h hs
  rw [hu] at h3
  cases dd <;> simp [udOf] at h3
  obtain ⟨rfl, rfl⟩ := h3
  exact h2

theorem t_ptr {t : Nat} {d : TyD} {e : Nat} (h : nth T t = some d) (hs : d.size ≠ 0) (hu : d.und = .ptr e) : P.underlying t = some (.pointer e) := by
  obtain ⟨dd, h2, h3, _⟩ := t_und hT h hs
  rw [hu] at h3
  cases dd <;> simp [udOf] at h3
  subst h3
  exact h2

theorem t_struct {t : Nat} {d : TyD} {fs : List (Nat × Nat)} (h : nth T t = some d) (hs : d.size ≠ 0) (hu : d.und = .struct fs) :
    ∃ F : Array Field, P.underlying t = some (.struct F) ∧ fs = F.toList.map (fun f => (f.offset, f.type)) ∧ eqOk P t (.struct F) = d.eqok := by
  obtain ⟨dd, h2, h3, h4⟩ := t_und hT h hs
  rw [hu] at h3
  cases dd <;> simp [udOf] at h3
  exact ⟨_, h2, h3.symm, h4⟩

end

theorem kEq_eq : ∀ {k k' : IntKind}, kEq k k' = true → k = k' := by
  intro k k' h
  cases k <;> cases k' <;> first | rfl | simp [kEq] at h

theorem bytesLess_eq : ∀ (x y : List UInt8), Op.bytesLess x y = decide (x < y)
  | [], [] => by simp [Op.bytesLess]
  | _ :: _, [] => by simp [Op.bytesLess]
  | [], _ :: _ => by simp [Op.bytesLess]
  | a :: x, b :: y => by
    rw [Op.bytesLess, bytesLess_eq x y]
    simp only [List.cons_lt_cons_iff]
    by_cases h1 : a < b <;> by_cases h2 : a = b <;> by_cases h3 : x < y <;> simp [h1, h2, h3]

theorem sLt_eq (a b : List UInt8) : sLt a b = decide (a < b) := bytesLess_eq a b

theorem str_toList (l : List UInt8) : (⟨⟨l⟩⟩ : ByteArray).toList = l := by rw [Lib.toList_data]

theorem leq_of (a b : List UInt8) : (Op.bytesLess a b || a == b) = !sLt b a := by
  rw [bytesLess_eq, sLt_eq]
  rw [Bool.eq_iff_iff]
  simp only [Bool.or_eq_true, decide_eq_true_eq, beq_iff_eq, Bool.not_eq_true', decide_eq_false_iff_not]
  constructor
  · rintro (h | h)
    · exact List.lt_asymm h
    · subst h; exact List.lt_irrefl _
  · intro h
    rcases Std.lt_trichotomy (a := a) (b := b) with h1 | h1 | h1
    · exact .inl h1
    · exact .inr h1
    · exact absurd h1 h

theorem takeN_eq {α : Type} : ∀ (l : List α) (o n : Nat) (r : List α), takeN l o n = some r → r = (l.drop o).take n ∧ o + n ≤ l.length ∨ n = 0 ∧ r = [] := by
  intro l
  induction l with
  | nil =>
    intro o n r h
    cases n with
    | zero => simp [takeN] at h; exact .inr ⟨rfl, h⟩
    | succ n => simp [takeN] at h
  | cons a l ih =>
    intro o n r h
    cases n with
    | zero => simp [takeN] at h; exact .inr ⟨rfl, h⟩
    | succ n =>
      cases o with
      | zero =>
        simp only [takeN] at h
        split at h
        · rename_i r' hr
          simp only [Option.some.injEq] at h
          subst h
          rcases ih 0 n r' hr with ⟨h1, h2⟩ | ⟨h1, h2⟩
          · left; simp at h1 h2 ⊢; exact ⟨h1, by omega⟩
          · left; subst h1; subst h2; simp
        · simp at h
      | succ o =>
        simp only [takeN] at h
        rcases ih o (n + 1) r h with ⟨h1, h2⟩ | ⟨h1, h2⟩
        · left; simp at h1 h2 ⊢; exact ⟨h1, by omega⟩
        · simp at h1

theorem takeN_pos {α : Type} {l : List α} {o n : Nat} {r : List α} (h : takeN l o n = some r) (hn : n ≠ 0) : r = (l.drop o).take n ∧ o + n ≤ l.length := by
  rcases takeN_eq l o n r h with h1 | h1
  · exact h1
  · exact absurd h1.1 hn

section
variable {P : Program} {T : List TyD} (hT : TOk P T) (w : World)
include hT

theorem part_sound {t : Nat} {fd : TyD} (h : nth T t = some fd) (hs : fd.size ≠ 0) {cs : List Value} {off : Nat} {r : Value} (hp : partL off fd cs = some r) :
    (part t ⟨cs⟩ off).run P w = .ok r w := by
  unfold partL at hp
  simp only [part, Sem.run_bind, t_agg hT w h hs, Result.andThen_ok]
  split at hp
  · rename_i hag
    split at hp
    · rename_i l hl
      simp only [Option.some.injEq] at hp
      subst hp
      obtain ⟨h1, h2⟩ := takeN_pos hl hs
      simp only [hag, if_true, Sem.run_bind, t_size hT w h hs, Result.andThen_ok, Sem.run_pure, h1]
      congr 2
      apply Array.ext'
      simp [List.take_drop]
    · simp at hp
  · rename_i hag
    rw [nth_eq] at hp
    simp only [hag, Bool.false_eq_true, if_false]
    have : (⟨cs⟩ : Array Value)[off]? = some r := by simpa using hp
    rw [this]
    rfl

theorem eqFs_sound (f : Nat → Value → Value → Option Bool) (dep : Nat) (hf : ∀ t a b r, f t a b = some r → ∀ w, (Op.equalIn dep t a b).run P w = .ok r w) (xs ys : List Value) :
    ∀ (F : List Field) (r : Bool), (F.all fun f => f.name != "_") = true → eqFs T f xs ys (F.map fun f => (f.offset, f.type)) = some r → (Op.eqFields dep ⟨xs⟩ ⟨ys⟩ F).run P w = .ok r w := by
  intro F
  induction F with
  | nil => intro r _ h; simp [eqFs] at h; subst h; rfl
  | cons f F ih =>
    intro r hn h
    simp only [List.all_cons, Bool.and_eq_true, bne_iff_ne] at hn
    simp only [List.map_cons, eqFs] at h
    split at h
    · rename_i fd hfd
      split at h
      · simp at h
      · rename_i n hsz
        split at h
        · rename_i a b ha hb
          split at h
          · rename_i p q hp hq
            simp only [Option.some.injEq] at h
            subst h
            have hs : fd.size ≠ 0 := by omega
            have e := ih q hn.2 hq
            rw [Op.eqFields, if_pos hn.1]
            simp only [Sem.run_bind, part_sound hT w hfd hs ha, part_sound hT w hfd hs hb, Result.andThen_ok, hf _ _ _ _ hp, Sem.run_ite, e]
            cases p <;> simp
          · simp at h
        · simp at h
    · simp at h

theorem eqP_sound : ∀ (n dep t : Nat) (a b : Value) (r : Bool), n ≤ dep → eqP T n t a b = some r → ∀ w, (Op.equalIn dep t a b).run P w = .ok r w := by
  intro n
  induction n with
  | zero => intro dep t a b r _ h; simp [eqP] at h
  | succ n ih =>
    intro dep t a b r hd h w
    obtain ⟨dep, rfl⟩ : ∃ k, dep = k + 1 := ⟨dep - 1, by omega⟩
    simp only [eqP] at h
    split at h
    · rename_i d hdn
      split at h
      · simp at h
      · rename_i m hsz
        have hs : d.size ≠ 0 := by omega
        split at h
        · rename_i p q hu
          simp only [Option.some.injEq] at h; subst h
          exact run_equalIn_bool w _ _ _ _ (t_bool hT hdn hs hu)
        · rename_i k0 k x k' y hu
          split at h
          · rename_i hk
            simp only [Option.some.injEq] at h; subst h
            have := kEq_eq hk
            subst this
            exact run_equalIn_int w _ _ _ _ _ _ (t_int hT hdn hs hu)
          · simp at h
        · rename_i x y hu
          simp only [Option.some.injEq] at h; subst h
          rw [run_equalIn_string w _ _ _ _ (t_str hT hdn hs hu), str_toList, str_toList]
        · rename_i fs xs ys hu
          split at h
          · rename_i he
            obtain ⟨F, h1, h2, h3⟩ := t_struct hT hdn hs hu
            rw [he] at h3
            simp only [eqOk, Bool.and_eq_true, Bool.not_eq_true'] at h3
            subst h2
            have hF : P.fieldsOf t = F := by simp [Program.fieldsOf, h1]
            rw [run_equalIn_struct w dep t ⟨xs⟩ ⟨ys⟩ (by rw [hF]; exact h1) h3.1.1, hF]
            exact eqFs_sound hT w _ dep (fun t a b r h w => ih dep t a b r (by omega) h w) xs ys F.toList r h3.2 h
          · simp at h
        · simp at h
    · simp at h

theorem eqP_guard {n t : Nat} {xs ys : List Value} {r : Bool} (h : eqP T n t (.agg ⟨xs⟩) (.agg ⟨ys⟩) = some r) : P.eqGuardType P.depth t = false := by
  cases n with
  | zero => simp [eqP] at h
  | succ n =>
    simp only [eqP] at h
    split at h
    · rename_i d hdn
      split at h
      · simp at h
      · rename_i m hsz
        have hs : d.size ≠ 0 := by omega
        cases hu : d.und <;> simp only [hu] at h
        case struct fs =>
          obtain ⟨F, h1, h2, h3⟩ := t_struct hT hdn hs hu
          split at h
          · rename_i he
            rw [he] at h3
            simp only [eqOk, Bool.and_eq_true, Bool.not_eq_true'] at h3
            exact h3.1.2
          · simp at h
        all_goals simp at h
    · simp at h

theorem binV_sound (op : BinOp) (t : Nat) (x y : Operand) (a b r : Value) (h : binV T op t a b = some r) :
    (do eqGuard op t x y a b; binOp op t a b : Sem Value).run P w = .ok r w := by
  unfold binV at h
  split at h
  · rename_i k a k' b
    split at h
    · rename_i hk
      have := kEq_eq hk
      subst this
      cases op <;> simp [intV] at h <;> subst h <;> simp [go_sem]
    · simp at h
  · rename_i a b
    cases op <;> simp [strV] at h <;> subst h <;> simp [go_sem, leq_of, sLt, bne]
  · rename_i a b
    unfold eqV at h
    split at h
    · split at h
      · rename_i q hq
        simp only [Option.some.injEq] at h; subst h
        have := eqP_sound hT 9 10000 t _ _ q (by omega) hq w
        simp [go_sem, binOp, Op.equal, Op.maxDepth, this]
      · simp at h
    · split at h
      · rename_i q hq
        simp only [Option.some.injEq] at h; subst h
        have := eqP_sound hT 9 10000 t _ _ q (by omega) hq w
        simp [go_sem, binOp, Op.equal, Op.maxDepth, this]
      · simp at h
    · simp at h
  · rename_i xs ys
    unfold eqV at h
    split at h
    · split at h
      · rename_i q hq
        simp only [Option.some.injEq] at h; subst h
        have h1 := eqP_sound hT 9 10000 t _ _ q (by omega) hq w
        have h2 := eqP_guard hT (xs := xs.toList) (ys := ys.toList) hq
        simp only [Sem.run_bind, run_eqGuard_agg w _ _ _ _ _ _ h2, Result.andThen_ok, run_eql_struct, h1]
      · simp at h
    · split at h
      · rename_i q hq
        simp only [Option.some.injEq] at h; subst h
        have h1 := eqP_sound hT 9 10000 t _ _ q (by omega) hq w
        have h2 := eqP_guard hT (xs := xs.toList) (ys := ys.toList) hq
        simp only [Sem.run_bind, run_eqGuard_agg w _ _ _ _ _ _ h2, Result.andThen_ok, run_neq_struct, h1]
      · simp at h
    · simp at h
  · simp at h

theorem fieldV_some {t f off : Nat} {fd : TyD} (h : fieldV T t f = some (off, fd)) :
    ∃ (F : Array Field) (fi : Field), P.underlying t = some (.struct F) ∧ F[f]? = some fi ∧ fi.offset = off ∧ nth T fi.type = some fd ∧ fd.size ≠ 0 := by
  unfold fieldV at h
  split at h <;> try (simp at h; done)
  rename_i d hd
  split at h <;> try (simp at h; done)
  rename_i n0 hsz0
  split at h <;> try (simp at h; done)
  rename_i fs hu
  split at h <;> try (simp at h; done)
  rename_i off' ft hn
  split at h <;> try (simp at h; done)
  rename_i fd' hfd
  split at h
  · simp at h
  · rename_i n hsz
    simp only [Option.some.injEq, Prod.mk.injEq] at h
    obtain ⟨rfl, rfl⟩ := h
    obtain ⟨F, h1, h2, _⟩ := t_struct hT hd (by omega) hu
    subst h2
    rw [nth_eq, List.getElem?_map] at hn
    cases hq : F.toList[f]? with
    | none => simp [hq] at hn
    | some fi =>
      simp [hq] at hn
      exact ⟨F, fi, h1, by simpa using hq, hn.1, by rw [hn.2]; exact hfd, by omega⟩

/-- A plain operation yields what 'pv' says, and leaves the world alone. -/
theorem pv_sound (env : List Nat) (ρ : Operand → Value) (e : Operand → Option SV) (he : ∀ x a, e x = some a → ρ x = den env a) {M : List OB} (hl : ∀ x a, e x = some a → a.ok M)
    (o : Oper) (r : SV) (h : pv T o.op e = some r) : (execOp ρ o).run P w = .ok (.value (den env r)) w := by
  unfold pv at h
  unfold execOp
  split at h
  case h_1 x hop => simp only [hop, Sem.run_pure, he _ _ h]
  case h_2 x hop => simp only [hop, Sem.run_pure, he _ _ h]
  case h_3 op t x y ty hop =>
    simp only [hop]
    split at h
    · rename_i a b ha hb
      split at h
      · rename_i q hq
        simp only [Option.some.injEq] at h; subst h
        have := binV_sound hT w op t x y a b q hq
        simp only [he _ _ ha, he _ _ hb, den]
        simp only [Sem.run_bind] at this ⊢
        rw [this]
        rfl
      · simp at h
    · simp at h
  case h_4 t x hop =>
    simp only [hop]
    split at h
    · rename_i b hb
      simp only [Option.some.injEq] at h; subst h
      simp [he _ _ hb, den, Op.unary]
    · simp at h
  case h_5 t x f hop =>
    simp only [hop]
    split at h
    · rename_i off fd hf
      obtain ⟨F, fi, h1, h2, h3, h4, h5⟩ := fieldV_some hT hf
      subst h3
      split at h
      · rename_i a ha
        rw [he _ _ ha]
        have hla := hl _ _ ha
        unfold addrAt at h
        split at h
        · simp only [Option.some.injEq] at h; subst h
          simp [Instr.fieldAt, run_underlying h1, h2, Instr.sureAddr, den, fieldPlace, t_size hT w h4 h5, h5, Addr.add_lit]
        · simp only [Option.some.injEq] at h; subst h
          obtain ⟨b, o', rfl⟩ := hla
          simp [Instr.fieldAt, run_underlying h1, h2, Instr.sureAddr, den, fieldPlace, t_size hT w h4 h5, h5, Addr.add_lit, Nat.add_assoc]
        · simp only [Option.some.injEq] at h; subst h
          simp [Instr.fieldAt, run_underlying h1, h2, Instr.sureAddr, den, fieldPlace, t_size hT w h4 h5, h5, Addr.add_lit]
        · simp at h
      · simp at h
    · simp at h
  case h_6 t x f hop =>
    simp only [hop]
    split at h
    · rename_i off fd hf
      obtain ⟨F, fi, h1, h2, h3, h4, h5⟩ := fieldV_some hT hf
      subst h3
      split at h
      · rename_i a ha
        rw [he _ _ ha]
        unfold partV at h
        split at h
        · rename_i cs
          split at h
          · rename_i q hq
            simp only [Option.some.injEq] at h; subst h
            simp [Instr.field, run_underlying h1, h2, asAgg, den, part_sound hT w h4 h5 hq]
          · simp at h
        · simp at h
      · simp at h
    · simp at h
  case h_7 x i hop =>
    simp only [hop]
    split at h
    · rename_i l hl
      split at h
      · rename_i y hy
        simp only [Option.some.injEq] at h; subst h
        rw [nth_eq] at hy
        rw [he _ _ hl]
        have : (⟨l⟩ : Array Value)[i]? = some y := by simpa using hy
        simp [Instr.extract, den, this]
      · simp at h
    · simp at h
  case h_8 x t hop =>
    simp only [hop]
    split at h
    · rename_i d hd
      split at h
      · simp at h
      · rename_i n hsz
        split at h
        · rename_i a ha
          split at h
          · rename_i q hq
            simp only [Option.some.injEq] at h; subst h
            unfold lenV at hq
            split at hq
            · rename_i l _
              simp only [Option.some.injEq] at hq; subst hq
              simp [resolve, invoke, builtin, Builtin.len_, he _ _ ha, den, run_underlying (t_str hT hd (by omega) (by assumption)), goInt]
              rfl
            · rename_i e1 b n' c _
              simp only [Option.some.injEq] at hq; subst hq
              simp [resolve, invoke, builtin, Builtin.len_, he _ _ ha, den, run_underlying (t_slice hT hd (by omega) (by assumption)), goInt]
            · rename_i e1 i o n' c _
              simp only [Option.some.injEq] at hq; subst hq
              simp [resolve, invoke, builtin, Builtin.len_, he _ _ ha, den, run_underlying (t_slice hT hd (by omega) (by assumption)), goInt]
            · simp at hq
          · simp at h
        · simp at h
    · simp at h
  case h_9 x t hop =>
    simp only [hop]
    split at h
    · rename_i d hd
      split at h
      · simp at h
      · rename_i n hsz
        split at h
        · rename_i a ha
          split at h
          · rename_i q hq
            simp only [Option.some.injEq] at h; subst h
            unfold capV at hq
            split at hq
            · rename_i e1 b n' c _
              simp only [Option.some.injEq] at hq; subst hq
              simp [resolve, invoke, builtin, Builtin.cap_, he _ _ ha, den, run_underlying (t_slice hT hd (by omega) (by assumption)), goInt]
            · rename_i e1 i o n' c _
              simp only [Option.some.injEq] at hq; subst hq
              simp [resolve, invoke, builtin, Builtin.cap_, he _ _ ha, den, run_underlying (t_slice hT hd (by omega) (by assumption)), goInt]
            · simp at hq
          · simp at h
        · simp at h
    · simp at h
  case h_10 x y t hop =>
    simp only [hop]
    split at h
    · rename_i k a k' b ha hb
      split at h
      · rename_i hk
        have := kEq_eq hk
        subst this
        simp only [Option.some.injEq] at h; subst h
        simp [resolve, invoke, builtin, Builtin.max_, Builtin.max2, he _ _ ha, he _ _ hb, den]
        by_cases hc : a < b
        · rw [if_pos hc]; omega
        · rw [if_neg hc]; omega
      · simp at h
    · simp at h
  case h_11 x y t hop =>
    simp only [hop]
    split at h
    · rename_i k a k' b ha hb
      split at h
      · rename_i hk
        have := kEq_eq hk
        subst this
        simp only [Option.some.injEq] at h; subst h
        simp [resolve, invoke, builtin, Builtin.min_, Builtin.min2, he _ _ ha, he _ _ hb, den]
        by_cases hc : b < a
        · rw [if_pos hc]; omega
        · rw [if_neg hc]; omega
      · simp at h
    · simp at h
  case h_12 src dst x hop =>
    simp only [hop]
    split at h
    · rename_i s d hs hd
      split at h
      · rename_i n1 n2 hz1 hz2
        obtain ⟨dd, h1, _, _⟩ := t_und hT hs (by omega)
        split at h
        · rename_i k k' n hu hx
          simp only [Option.some.injEq] at h; subst h
          simp [he _ _ hx, den, convert, run_underlying h1, run_underlying (t_int hT hd (by omega) hu), Conv.intToInt]
        · rename_i b hu hx
          simp only [Option.some.injEq] at h; subst h
          simp [he _ _ hx, den, convert, run_underlying h1, run_underlying (t_str hT hd (by omega) hu)]
        · simp at h
      · simp at h
    · simp at h
  case h_13 t x hop =>
    simp only [hop]
    split at h
    · rename_i k a hb
      simp only [Option.some.injEq] at h; subst h
      simp [he _ _ hb, den, Op.unary, Op.intArith]
    · simp at h
  case h_14 => simp at h

end
end Go.Proofs.Ytkbldnpifmjipaa
