/-
 A FRAMEWORK FOR PROOFS ABOUT CALLS: its parts Fb Fw Fc Fd Fe Ff Fg Fk Fh Fi Fj put together.
 Conditions: the table of types is the program's (TOk).
-/
import Derived.Test.YtglnnhmmipopiaaGreatFa
import Derived.Lib.Strings
import Derived.OrdersHeld
import Derived.Maps.AppendAt
import Derived.Scope

set_option linter.all false
namespace Go.Proofs.YtglnnhmmipopiaaGreat
def envAt (env : List Nat) (i : Nat) : Nat := (env[i]?).getD 0
def den (env : List Nat) : SV → Value
 | .v x => x
 | .ptr i off => .pointer (some ⟨envAt env i, off, none⟩)
 | .slc i off len cap => .slice (some ⟨envAt env i, off, none⟩) len cap
 | .el a off => .pointer (a.map fun p => ⟨p.block, p.off + off, none⟩)
def alive (M : List OB) (i : Nat) : Prop := ∃ o, M[i]? = some o ∧ o ≠ .gone
def SV.ok (M : List OB) : SV → Prop
 | .v _ => True
 | .ptr i _ => alive M i
 | .slc i _ _ _ => alive M i
 | .el a _ => ∃ b o, a = some ⟨b, o, none⟩
theorem tyD_some {P : Program} {t : Nat} {d : TyD} (h : tyD P t = some d) :
  ∃ i dd z, P.info? t = some i ∧ P.underlying t = some dd ∧ i.zero = some z ∧ d = ⟨i.size, i.bytes, udOf dd, z.cells.toList, eqOk P t dd⟩ := by
 unfold tyD at h
 split at h
 ·rename_i i dd h1 h2
  split at h
  ·rename_i z hz
   exact ⟨i, dd, z, h1, h2, hz, (Option.some.inj h).symm⟩
  ·simp at h
 ·simp at h
section
variable {P : Program} {T : List TyD} (hT : TOk P T) (w : World)
include hT
theorem t_size {t : Nat} {d : TyD} (h : nth T t = some d) (hs : d.size ≠ 0) : (sizeOf t).run P w = .ok d.size w := by
 obtain ⟨i, dd, z, h1, h2, h3, rfl⟩ := tyD_some (hT.1 t d h hs)
 simp [sizeOf, typeInfo, h1]
theorem t_und {t : Nat} {d : TyD} (h : nth T t = some d) (hs : d.size ≠ 0) : ∃ dd, P.underlying t = some dd ∧ udOf dd = d.und ∧ eqOk P t dd = d.eqok := by
 obtain ⟨i, dd, z, h1, h2, h3, rfl⟩ := tyD_some (hT.1 t d h hs)
 exact ⟨dd, h2, rfl, rfl⟩
theorem t_agg {t : Nat} {d : TyD} (h : nth T t = some d) (hs : d.size ≠ 0) : (isAgg t).run P w = .ok d.und.agg w := by
 obtain ⟨dd, h2, h3, _⟩ := t_und hT h hs
 unfold isAgg
 rw [Sem.run_bind, run_underlying h2 w]
 rw [← h3]
 cases dd <;> simp [udOf, UD.agg]
theorem t_str {t : Nat} {d : TyD} (h : nth T t = some d) (hs : d.size ≠ 0) (hu : d.und = .str) : P.underlying t = some .string := by
 obtain ⟨dd, h2, h3, _⟩ := t_und hT h hs
 rw [hu] at h3
 cases dd <;> simp [udOf] at h3
 exact h2
theorem t_bool {t : Nat} {d : TyD} (h : nth T t = some d) (hs : d.size ≠ 0) (hu : d.und = .bool) : P.underlying t = some .bool := by
 obtain ⟨dd, h2, h3, _⟩ := t_und hT h hs
 rw [hu] at h3
 cases dd <;> simp [udOf] at h3
 exact h2
theorem t_int {t : Nat} {d : TyD} {k : IntKind} (h : nth T t = some d) (hs : d.size ≠ 0) (hu : d.und = .int k) : P.underlying t = some (.int k) := by
 obtain ⟨dd, h2, h3, _⟩ := t_und hT h hs
 rw [hu] at h3
 cases dd <;> simp [udOf] at h3
 subst h3
 exact h2
theorem t_slice {t : Nat} {d : TyD} {e : Nat} (h : nth T t = some d) (hs : d.size ≠ 0) (hu : d.und = .slice e) : P.underlying t = some (.slice e) := by
 obtain ⟨dd, h2, h3, _⟩ := t_und hT h hs
 rw [hu] at h3
 cases dd <;> simp [udOf] at h3
 subst h3
 exact h2
theorem t_arr {t : Nat} {d : TyD} {n e : Nat} (h : nth T t = some d) (hs : d.size ≠ 0) (hu : d.und = .arr n e) : P.underlying t = some (.array n e) := by
 obtain ⟨dd, h2, h3, _⟩ := t_und hT h hs
 rw [hu] at h3
 cases dd <;> simp [udOf] at h3
 obtain ⟨rfl, rfl⟩ := h3
 exact h2
theorem t_struct {t : Nat} {d : TyD} {fs : List (Nat × Nat)} (h : nth T t = some d) (hs : d.size ≠ 0) (hu : d.und = .struct fs) :
  ∃ F : Array Field, P.underlying t = some (.struct F) ∧ fs = F.toList.map (fun f => (f.offset, f.type)) ∧ eqOk P t (.struct F) = d.eqok := by
 obtain ⟨dd, h2, h3, h4⟩ := t_und hT h hs
 rw [hu] at h3
 cases dd <;> simp [udOf] at h3
 exact ⟨_, h2, h3.symm, h4⟩
end
theorem kEq_eq : ∀ {k k' : IntKind}, kEq k k' = true → k = k' := by
 intro k k' h
 cases k <;> cases k' <;> first | rfl | simp [kEq] at h
theorem bytesLess_eq : ∀ (x y : List UInt8), Op.bytesLess x y = decide (x < y)
 | [], [] => by simp [Op.bytesLess]
 | _ :: _, [] => by simp [Op.bytesLess]
 | [], _ :: _ => by simp [Op.bytesLess]
 | a :: x, b :: y => by
  rw [Op.bytesLess, bytesLess_eq x y]
  simp only [List.cons_lt_cons_iff]
  by_cases h1 : a < b <;> by_cases h2 : a = b <;> by_cases h3 : x < y <;> simp [h1, h2, h3]
theorem sLt_eq (a b : List UInt8) : sLt a b = decide (a < b) := bytesLess_eq a b
theorem str_toList (l : List UInt8) : (⟨⟨l⟩⟩ : ByteArray).toList = l := by rw [Lib.toList_data]
theorem leq_of (a b : List UInt8) : (Op.bytesLess a b || a == b) = !sLt b a := by
 rw [bytesLess_eq, sLt_eq]
 rw [Bool.eq_iff_iff]
 simp only [Bool.or_eq_true, decide_eq_true_eq, beq_iff_eq, Bool.not_eq_true', decide_eq_false_iff_not]
 constructor
 ·rintro (h | h)
  ·exact List.lt_asymm h
  ·subst h; exact List.lt_irrefl _
 ·intro h
  rcases Std.lt_trichotomy (a := a) (b := b) with h1 | h1 | h1
  ·exact .inl h1
  ·exact .inr h1
  ·exact absurd h1 h
theorem takeN_eq {α : Type} : ∀ (l : List α) (o n : Nat) (r : List α), takeN l o n = some r → r = (l.drop o).take n ∧ o + n ≤ l.length ∨ n = 0 ∧ r = [] := by
 intro l
 induction l with
 | nil =>
  intro o n r h
  cases n with
  | zero => simp [takeN] at h; exact .inr ⟨rfl, h⟩
  | succ n => simp [takeN] at h
 | cons a l ih =>
  intro o n r h
  cases n with
  | zero => simp [takeN] at h; exact .inr ⟨rfl, h⟩
  | succ n =>
   cases o with
   | zero =>
    simp only [takeN] at h
    split at h
    ·rename_i r' hr
     simp only [Option.some.injEq] at h
     subst h
     rcases ih 0 n r' hr with ⟨h1, h2⟩ | ⟨h1, h2⟩
     ·left; simp at h1 h2 ⊢; exact ⟨h1, by omega⟩
     ·left; subst h1; subst h2; simp
    ·simp at h
   | succ o =>
    simp only [takeN] at h
    rcases ih o (n + 1) r h with ⟨h1, h2⟩ | ⟨h1, h2⟩
    ·left; simp at h1 h2 ⊢; exact ⟨h1, by omega⟩
    ·simp at h1
theorem takeN_pos {α : Type} {l : List α} {o n : Nat} {r : List α} (h : takeN l o n = some r) (hn : n ≠ 0) : r = (l.drop o).take n ∧ o + n ≤ l.length := by
 rcases takeN_eq l o n r h with h1 | h1
 ·exact h1
 ·exact absurd h1.1 hn
section
variable {P : Program} {T : List TyD} (hT : TOk P T) (w : World)
include hT
theorem part_sound {t : Nat} {fd : TyD} (h : nth T t = some fd) (hs : fd.size ≠ 0) {cs : List Value} {off : Nat} {r : Value} (hp : partL off fd cs = some r) :
  (part t ⟨cs⟩ off).run P w = .ok r w := by
 unfold partL at hp
 simp only [part, Sem.run_bind, t_agg hT w h hs, Result.andThen_ok]
 split at hp
 ·rename_i hag
  split at hp
  ·rename_i l hl
   simp only [Option.some.injEq] at hp
   subst hp
   obtain ⟨h1, h2⟩ := takeN_pos hl hs
   simp only [hag, if_true, Sem.run_bind, t_size hT w h hs, Result.andThen_ok, Sem.run_pure, h1]
   congr 2
   apply Array.ext'
   simp [List.take_drop]
  ·simp at hp
 ·rename_i hag
  rw [nth_eq] at hp
  simp only [hag, Bool.false_eq_true, if_false]
  have : (⟨cs⟩ : Array Value)[off]? = some r := by simpa using hp
  rw [this]
  rfl
theorem eqFs_sound (f : Nat → Value → Value → Option Bool) (dep : Nat) (hf : ∀ t a b r, f t a b = some r → ∀ w, (Op.equalIn dep t a b).run P w = .ok r w) (xs ys : List Value) :
  ∀ (F : List Field) (r : Bool), (F.all fun f => f.name != "_") = true → eqFs T f xs ys (F.map fun f => (f.offset, f.type)) = some r → (Op.eqFields dep ⟨xs⟩ ⟨ys⟩ F).run P w = .ok r w := by
 intro F
 induction F with
 | nil => intro r _ h; simp [eqFs] at h; subst h; rfl
 | cons f F ih =>
  intro r hn h
  simp only [List.all_cons, Bool.and_eq_true, bne_iff_ne] at hn
  simp only [List.map_cons, eqFs] at h
  split at h
  ·rename_i fd hfd
   split at h
   ·simp at h
   ·rename_i n hsz
    split at h
    ·rename_i a b ha hb
     split at h
     ·rename_i p q hp hq
      simp only [Option.some.injEq] at h
      subst h
      have hs : fd.size ≠ 0 := by omega
      have e := ih q hn.2 hq
      rw [Op.eqFields, if_pos hn.1]
      simp only [Sem.run_bind, part_sound hT w hfd hs ha, part_sound hT w hfd hs hb, Result.andThen_ok, hf _ _ _ _ hp, Sem.run_ite, e]
      cases p <;> simp
     ·simp at h
    ·simp at h
  ·simp at h
theorem eqP_sound : ∀ (n dep t : Nat) (a b : Value) (r : Bool), n ≤ dep → eqP T n t a b = some r → ∀ w, (Op.equalIn dep t a b).run P w = .ok r w := by
 intro n
 induction n with
 | zero => intro dep t a b r _ h; simp [eqP] at h
 | succ n ih =>
  intro dep t a b r hd h w
  obtain ⟨dep, rfl⟩ : ∃ k, dep = k + 1 := ⟨dep - 1, by omega⟩
  simp only [eqP] at h
  split at h
  ·rename_i d hdn
   split at h
   ·simp at h
   ·rename_i m hsz
    have hs : d.size ≠ 0 := by omega
    split at h
    ·rename_i p q hu
     simp only [Option.some.injEq] at h; subst h
     exact run_equalIn_bool w _ _ _ _ (t_bool hT hdn hs hu)
    ·rename_i k0 k x k' y hu
     split at h
     ·rename_i hk
      simp only [Option.some.injEq] at h; subst h
      have := kEq_eq hk
      subst this
      exact run_equalIn_int w _ _ _ _ _ _ (t_int hT hdn hs hu)
     ·simp at h
    ·rename_i x y hu
     simp only [Option.some.injEq] at h; subst h
     rw [run_equalIn_string w _ _ _ _ (t_str hT hdn hs hu), str_toList, str_toList]
    ·rename_i fs xs ys hu
     split at h
     ·rename_i he
      obtain ⟨F, h1, h2, h3⟩ := t_struct hT hdn hs hu
      rw [he] at h3
      simp only [eqOk, Bool.and_eq_true, Bool.not_eq_true'] at h3
      subst h2
      have hF : P.fieldsOf t = F := by simp [Program.fieldsOf, h1]
      rw [run_equalIn_struct w dep t ⟨xs⟩ ⟨ys⟩ (by rw [hF]; exact h1) h3.1.1, hF]
      exact eqFs_sound hT w _ dep (fun t a b r h w => ih dep t a b r (by omega) h w) xs ys F.toList r h3.2 h
     ·simp at h
    ·simp at h
  ·simp at h
theorem eqP_guard {n t : Nat} {xs ys : List Value} {r : Bool} (h : eqP T n t (.agg ⟨xs⟩) (.agg ⟨ys⟩) = some r) : P.eqGuardType P.depth t = false := by
 cases n with
 | zero => simp [eqP] at h
 | succ n =>
  simp only [eqP] at h
  split at h
  ·rename_i d hdn
   split at h
   ·simp at h
   ·rename_i m hsz
    have hs : d.size ≠ 0 := by omega
    cases hu : d.und <;> simp only [hu] at h
    case struct fs =>
     obtain ⟨F, h1, h2, h3⟩ := t_struct hT hdn hs hu
     split at h
     ·rename_i he
      rw [he] at h3
      simp only [eqOk, Bool.and_eq_true, Bool.not_eq_true'] at h3
      exact h3.1.2
     ·simp at h
    all_goals simp at h
  ·simp at h
theorem binV_sound (op : BinOp) (t : Nat) (x y : Operand) (a b r : Value) (h : binV T op t a b = some r) :
  (do eqGuard op t x y a b; binOp op t a b : Sem Value).run P w = .ok r w := by
 unfold binV at h
 split at h
 ·rename_i k a k' b
  split at h
  ·rename_i hk
   have := kEq_eq hk
   subst this
   cases op <;> simp [intV] at h <;> subst h <;> simp [go_sem]
  ·simp at h
 ·rename_i a b
  cases op <;> simp [strV] at h <;> subst h <;> simp [go_sem, leq_of, sLt, bne]
 ·rename_i a b
  unfold eqV at h
  split at h
  ·split at h
   ·rename_i q hq
    simp only [Option.some.injEq] at h; subst h
    have := eqP_sound hT 9 10000 t _ _ q (by omega) hq w
    simp [go_sem, binOp, Op.equal, Op.maxDepth, this]
   ·simp at h
  ·split at h
   ·rename_i q hq
    simp only [Option.some.injEq] at h; subst h
    have := eqP_sound hT 9 10000 t _ _ q (by omega) hq w
    simp [go_sem, binOp, Op.equal, Op.maxDepth, this]
   ·simp at h
  ·simp at h
 ·rename_i xs ys
  unfold eqV at h
  split at h
  ·split at h
   ·rename_i q hq
    simp only [Option.some.injEq] at h; subst h
    have h1 := eqP_sound hT 9 10000 t _ _ q (by omega) hq w
    have h2 := eqP_guard hT (xs := xs.toList) (ys := ys.toList) hq
    simp only [Sem.run_bind, run_eqGuard_agg w _ _ _ _ _ _ h2, Result.andThen_ok, run_eql_struct, h1]
   ·simp at h
  ·split at h
   ·rename_i q hq
    simp only [Option.some.injEq] at h; subst h
    have h1 := eqP_sound hT 9 10000 t _ _ q (by omega) hq w
    have h2 := eqP_guard hT (xs := xs.toList) (ys := ys.toList) hq
    simp only [Sem.run_bind, run_eqGuard_agg w _ _ _ _ _ _ h2, Result.andThen_ok, run_neq_struct, h1]
   ·simp at h
  ·simp at h
 ·simp at h
theorem fieldV_some {t f off : Nat} {fd : TyD} (h : fieldV T t f = some (off, fd)) :
  ∃ (F : Array Field) (fi : Field), P.underlying t = some (.struct F) ∧ F[f]? = some fi ∧ fi.offset = off ∧ nth T fi.type = some fd ∧ fd.size ≠ 0 := by
 unfold fieldV at h
 split at h <;> try (simp at h; done)
 rename_i d hd
 split at h <;> try (simp at h; done)
 rename_i n0 hsz0
 split at h <;> try (simp at h; done)
 rename_i fs hu
 split at h <;> try (simp at h; done)
 rename_i off' ft hn
 split at h <;> try (simp at h; done)
 rename_i fd' hfd
 split at h
 ·simp at h
 ·rename_i n hsz
  simp only [Option.some.injEq, Prod.mk.injEq] at h
  obtain ⟨rfl, rfl⟩ := h
  obtain ⟨F, h1, h2, _⟩ := t_struct hT hd (by omega) hu
  subst h2
  rw [nth_eq, List.getElem?_map] at hn
  cases hq : F.toList[f]? with
  | none => simp [hq] at hn
  | some fi =>
   simp [hq] at hn
   exact ⟨F, fi, h1, by simpa using hq, hn.1, by rw [hn.2]; exact hfd, by omega⟩
theorem pv_sound (env : List Nat) (ρ : Operand → Value) (e : Operand → Option SV) (he : ∀ x a, e x = some a → ρ x = den env a) {M : List OB} (hl : ∀ x a, e x = some a → a.ok M)
  (o : Oper) (r : SV) (h : pv T o.op e = some r) : (execOp ρ o).run P w = .ok (.value (den env r)) w := by
 unfold pv at h
 unfold execOp
 split at h
 case h_1 x hop => simp only [hop, Sem.run_pure, he _ _ h]
 case h_2 x hop => simp only [hop, Sem.run_pure, he _ _ h]
 case h_3 op t x y ty hop =>
  simp only [hop]
  split at h
  ·rename_i a b ha hb
   split at h
   ·rename_i q hq
    simp only [Option.some.injEq] at h; subst h
    have := binV_sound hT w op t x y a b q hq
    simp only [he _ _ ha, he _ _ hb, den]
    simp only [Sem.run_bind] at this ⊢
    rw [this]
    rfl
   ·simp at h
  ·simp at h
 case h_4 t x hop =>
  simp only [hop]
  split at h
  ·rename_i b hb
   simp only [Option.some.injEq] at h; subst h
   simp [he _ _ hb, den, Op.unary]
  ·simp at h
 case h_5 t x f hop =>
  simp only [hop]
  split at h
  ·rename_i off fd hf
   obtain ⟨F, fi, h1, h2, h3, h4, h5⟩ := fieldV_some hT hf
   subst h3
   split at h
   ·rename_i a ha
    rw [he _ _ ha]
    have hla := hl _ _ ha
    unfold addrAt at h
    split at h
    ·simp only [Option.some.injEq] at h; subst h
     simp [Instr.fieldAt, run_underlying h1, h2, Instr.sureAddr, den, fieldPlace, t_size hT w h4 h5, h5, Addr.add_lit]
    ·simp only [Option.some.injEq] at h; subst h
     obtain ⟨b, o', rfl⟩ := hla
     simp [Instr.fieldAt, run_underlying h1, h2, Instr.sureAddr, den, fieldPlace, t_size hT w h4 h5, h5, Addr.add_lit, Nat.add_assoc]
    ·simp only [Option.some.injEq] at h; subst h
     simp [Instr.fieldAt, run_underlying h1, h2, Instr.sureAddr, den, fieldPlace, t_size hT w h4 h5, h5, Addr.add_lit]
    ·simp at h
   ·simp at h
  ·simp at h
 case h_6 t x f hop =>
  simp only [hop]
  split at h
  ·rename_i off fd hf
   obtain ⟨F, fi, h1, h2, h3, h4, h5⟩ := fieldV_some hT hf
   subst h3
   split at h
   ·rename_i a ha
    rw [he _ _ ha]
    unfold partV at h
    split at h
    ·rename_i cs
     split at h
     ·rename_i q hq
      simp only [Option.some.injEq] at h; subst h
      simp [Instr.field, run_underlying h1, h2, asAgg, den, part_sound hT w h4 h5 hq]
     ·simp at h
    ·simp at h
   ·simp at h
  ·simp at h
 case h_7 x i hop =>
  simp only [hop]
  split at h
  ·rename_i l hl
   split at h
   ·rename_i y hy
    simp only [Option.some.injEq] at h; subst h
    rw [nth_eq] at hy
    rw [he _ _ hl]
    have : (⟨l⟩ : Array Value)[i]? = some y := by simpa using hy
    simp [Instr.extract, den, this]
   ·simp at h
  ·simp at h
 case h_8 x t hop =>
  simp only [hop]
  split at h
  ·rename_i d hd
   split at h
   ·simp at h
   ·rename_i n hsz
    split at h
    ·rename_i a ha
     split at h
     ·rename_i q hq
      simp only [Option.some.injEq] at h; subst h
      unfold lenV at hq
      split at hq
      ·rename_i l _
       simp only [Option.some.injEq] at hq; subst hq
       simp [resolve, invoke, builtin, Builtin.len_, he _ _ ha, den, run_underlying (t_str hT hd (by omega) (by assumption)), goInt]
       rfl
      ·rename_i e1 b n' c _
       simp only [Option.some.injEq] at hq; subst hq
       simp [resolve, invoke, builtin, Builtin.len_, he _ _ ha, den, run_underlying (t_slice hT hd (by omega) (by assumption)), goInt]
      ·rename_i e1 i o n' c _
       simp only [Option.some.injEq] at hq; subst hq
       simp [resolve, invoke, builtin, Builtin.len_, he _ _ ha, den, run_underlying (t_slice hT hd (by omega) (by assumption)), goInt]
      ·simp at hq
     ·simp at h
    ·simp at h
  ·simp at h
 case h_9 x t hop =>
  simp only [hop]
  split at h
  ·rename_i d hd
   split at h
   ·simp at h
   ·rename_i n hsz
    split at h
    ·rename_i a ha
     split at h
     ·rename_i q hq
      simp only [Option.some.injEq] at h; subst h
      unfold capV at hq
      split at hq
      ·rename_i e1 b n' c _
       simp only [Option.some.injEq] at hq; subst hq
       simp [resolve, invoke, builtin, Builtin.cap_, he _ _ ha, den, run_underlying (t_slice hT hd (by omega) (by assumption)), goInt]
      ·rename_i e1 i o n' c _
       simp only [Option.some.injEq] at hq; subst hq
       simp [resolve, invoke, builtin, Builtin.cap_, he _ _ ha, den, run_underlying (t_slice hT hd (by omega) (by assumption)), goInt]
      ·simp at hq
     ·simp at h
    ·simp at h
  ·simp at h
 case h_10 x y t hop =>
  simp only [hop]
  split at h
  ·rename_i k a k' b ha hb
   split at h
   ·rename_i hk
    have := kEq_eq hk
    subst this
    simp only [Option.some.injEq] at h; subst h
    simp [resolve, invoke, builtin, Builtin.max_, Builtin.max2, he _ _ ha, he _ _ hb, den]
    by_cases hc : a < b
    ·rw [if_pos hc]; omega
    ·rw [if_neg hc]; omega
   ·simp at h
  ·simp at h
 case h_11 x y t hop =>
  simp only [hop]
  split at h
  ·rename_i k a k' b ha hb
   split at h
   ·rename_i hk
    have := kEq_eq hk
    subst this
    simp only [Option.some.injEq] at h; subst h
    simp [resolve, invoke, builtin, Builtin.min_, Builtin.min2, he _ _ ha, he _ _ hb, den]
    by_cases hc : b < a
    ·rw [if_pos hc]; omega
    ·rw [if_neg hc]; omega
   ·simp at h
  ·simp at h
 case h_12 src dst x hop =>
  simp only [hop]
  split at h
  ·rename_i s d hs hd
   split at h
   ·rename_i n1 n2 hz1 hz2
    obtain ⟨dd, h1, _, _⟩ := t_und hT hs (by omega)
    split at h
    ·rename_i k k' n hu hx
     simp only [Option.some.injEq] at h; subst h
     simp [he _ _ hx, den, convert, run_underlying h1, run_underlying (t_int hT hd (by omega) hu), Conv.intToInt]
    ·rename_i b hu hx
     simp only [Option.some.injEq] at h; subst h
     simp [he _ _ hx, den, convert, run_underlying h1, run_underlying (t_str hT hd (by omega) hu)]
    ·simp at h
   ·simp at h
  ·simp at h
 case h_13 t x hop =>
  simp only [hop]
  split at h
  ·rename_i k a hb
   simp only [Option.some.injEq] at h; subst h
   simp [he _ _ hb, den, Op.unary, Op.intArith]
  ·simp at h
 case h_14 => simp at h
end
end Go.Proofs.YtglnnhmmipopiaaGreat

set_option linter.all false
namespace Go.Proofs.YtglnnhmmipopiaaGreat
def wpAnyG (P : Program) (ops : Array Oper) (Q : Exit → Act → World → Prop) (S : Array Bool → World → Prop) : Nat → Array Bool → Act → World → Prop
 | 0, listed, a, w => Region.ready .any ops listed = [] ∧ Q .normal a w
 | fuel + 1, listed, a, w =>
  (Region.ready .any ops listed = [] → Q .normal a w) ∧
  ∀ i ∈ Region.ready .any ops listed, wpOp P ops Q i (fun a' w' => S (listed.setIfInBounds i true) w' ∧ wpAnyG P ops Q S fuel (listed.setIfInBounds i true) a' w') a w
theorem wpAny_of_G {P : Program} {ops : Array Oper} {Q : Exit → Act → World → Prop} {S : Array Bool → World → Prop} : ∀ (fuel : Nat) (listed : Array Bool) (a : Act) (w : World), wpAnyG P ops Q S fuel listed a w → wpAny P .any ops Q fuel listed a w
 | 0, _, _, _, h => h
 | fuel + 1, _, _, _, h => ⟨h.1, fun i hi => wpOp_mono (fun a' w' h' => wpAny_of_G fuel _ a' w' h'.2) (h.2 i hi)⟩
def SF (ends : List Nat) (S : World → Prop) (listed : Array Bool) (w : World) : Prop := (∀ e ∈ ends, listed.getD e false = false) → S w
theorem getD_setT {listed : Array Bool} {i e : Nat} (h : e ≠ i) : (listed.setIfInBounds i true).getD e false = listed.getD e false := getD_set_ne false (Ne.symm h)
theorem wpAnyG_first {P : Program} {ops : Array Oper} {Q : Exit → Act → World → Prop} {ends : List Nat} {S : World → Prop} {i : Nat} {oi : Oper} {v : Value} (hi : ops[i]? = some oi)
  (hsel : ∀ (j : Nat) (o : Oper) cs b, ops[j]? = some o → o.op ≠ .select cs b) (hQ : ∀ c a w, Q (.panic c) (a.put oi.dst v) w → Q (.panic c) a w)
  (sh : List Nat) (hsub : ∀ e ∈ ends, e ∈ sh) (hw : ∀ e ∈ sh, e ≠ i ∧ ∀ oe, ops[e]? = some oe → ∃ ed ∈ oe.after, Region.binds .any ed = true ∧ (ed.on = i ∨ ed.on ∈ sh)) :
  ∀ (fuel : Nat) (listed : Array Bool) (a : Act) (w : World), (∀ e ∈ sh, listed.getD e false = false) →
   (∀ j oj, ops[j]? = some oj → j ≠ i → listed.getD j true = false → (∀ e ∈ oj.after, Region.binds .any e = true → e.on ≠ i) → oi.apart ops oj = true) →
   i ∈ Region.ready .any ops listed → YieldsIf P ops S oi v a → S w →
   wpAnyG P ops Q (SF ends S) fuel (listed.setIfInBounds i true) (a.put oi.dst v) w → wpAnyG P ops Q (SF ends S) (fuel + 1) listed a w := by
 intro fuel
 induction fuel with
 | zero =>
  intro listed a w _ _ hr hy hS H
  refine ⟨fun h => (by rw [h] at hr; cases hr), fun j hj => ?_⟩
  by_cases hji : j = i
  ·subst hji; exact hy.wpOp hi hS ⟨fun _ => hS, H⟩
  ·have := ready_mono hj hji
   rw [H.1] at this
   cases this
 | succ fuel ih =>
  intro listed a w hends hfree hr hy hS H
  refine ⟨fun h => (by rw [h] at hr; cases hr), fun j hj => ?_⟩
  by_cases hji : j = i
  ·subst hji; exact hy.wpOp hi hS ⟨fun _ => hS, H⟩
  ·have h1 := H.2 j (ready_mono hj hji)
   obtain ⟨hjun, oj, hoj, hall⟩ := mem_ready.1 hj
   have hnot : ∀ e ∈ oj.after, Region.binds .any e = true → e.on ≠ i := fun e he hb heq => by
    have h1 := hall e he hb
    have h0 := (mem_ready.1 hr).1
    rw [heq] at h1
    rcases Nat.lt_or_ge i listed.size with h' | h'
    ·simp [h'] at h0 h1; rw [h0] at h1; cases h1
    ·simp [Array.getElem?_eq_none h'] at h1
   have h2 := wpOp_putIf hoj (hfree j oj hoj hji hjun hnot) (fun cs b => hsel i oi cs b hi) (fun cs b => hsel j oj cs b hoj) hQ hy h1
   have hjend : ∀ e ∈ sh, e ≠ j := fun e he hej => by
    subst hej
    obtain ⟨ed, k1, k2, k3⟩ := (hw e he).2 oj hoj
    rcases k3 with k3 | k3
    ·exact hnot ed k1 k2 k3
    ·have h1 := hall ed k1 k2
     have h0 := hends ed.on k3
     rcases Nat.lt_or_ge ed.on listed.size with h' | h'
     ·simp [h'] at h0 h1; rw [h0] at h1; cases h1
     ·simp [Array.getElem?_eq_none h'] at h1
   have hends2 : ∀ e ∈ sh, (listed.setIfInBounds j true).getD e false = false := fun e he => by
    rw [getD_setT (hjend e he)]; exact hends e he
   have hends3 : ∀ e ∈ ends, ((listed.setIfInBounds i true).setIfInBounds j true).getD e false = false := fun e he => by
    rw [getD_setT (hjend e (hsub e he)), getD_setT (hw e (hsub e he)).1]; exact hends e (hsub e he)
   have hfree' : ∀ k ok, ops[k]? = some ok → k ≠ i → (listed.setIfInBounds j true).getD k true = false →
     (∀ e ∈ ok.after, Region.binds .any e = true → e.on ≠ i) → oi.apart ops ok = true := fun k ok hk hki hun hno => by
    refine hfree k ok hk hki ?_ hno
    by_cases hjk : j = k
    ·subst hjk; exact hjun
    ·rw [getD_set_ne true hjk] at hun; exact hun
   refine wpOp_mono (fun a' w' h3 => ⟨fun _ => h3.2.1 hends3, ih (listed.setIfInBounds j true) a' w' hends2 hfree' (ready_mono hr (Ne.symm hji)) h3.1 (h3.2.1 hends3) ?_⟩) h2
   rw [Array.setIfInBounds_comm _ _ hji]
   exact h3.2.2

/-! ### The side conditions, over lists -/
def lst : List Bool → Nat → Bool
 | [], _ => false
 | b :: _, 0 => b
 | _ :: l, n + 1 => lst l n
theorem lst_eq : ∀ (l : List Bool) (n : Nat), lst l n = (⟨l⟩ : Array Bool).getD n false
 | [], n => by simp [lst]
 | b :: l, 0 => by simp [lst]
 | b :: l, n + 1 => by
  rw [lst, lst_eq l n]
  simp
def setT : List Bool → Nat → List Bool
 | [], _ => []
 | _ :: l, 0 => true :: l
 | b :: l, n + 1 => b :: setT l n
theorem setT_eq : ∀ (l : List Bool) (n : Nat), (⟨setT l n⟩ : Array Bool) = (⟨l⟩ : Array Bool).setIfInBounds n true := by
 intro l n
 apply Array.ext'
 simp only [Array.toList_setIfInBounds]
 induction l generalizing n with
 | nil => simp [setT]
 | cons b l ih =>
  cases n with
  | zero => simp [setT]
  | succ n => simp [setT, ih]
def bindsE (e : Edge) : Bool :=
 match e.ground with
 | .textOnly _ => false
 | .gcOnly _ => false
 | _ => true
theorem bindsE_eq (e : Edge) : Region.binds .any e = bindsE e := by
 unfold Region.binds bindsE
 split <;> first | rfl | simp_all
def edgesUp (listed : List Bool) : List Edge → Bool
 | [] => true
 | e :: l => match bindsE e with
  | true => match lst listed e.on with
   | true => edgesUp listed l
   | false => false
  | false => edgesUp listed l
theorem edgesUp_iff {listed : List Bool} : ∀ {l : List Edge}, edgesUp listed l = true ↔ ∀ e ∈ l, Region.binds .any e = true → (⟨listed⟩ : Array Bool).getD e.on false = true
 | [] => by simp [edgesUp]
 | e :: l => by
  have ih := edgesUp_iff (listed := listed) (l := l)
  simp only [edgesUp, List.mem_cons, forall_eq_or_imp, bindsE_eq] at *
  cases hb : bindsE e with
  | false => simpa using ih
  | true =>
   simp only [forall_const]
   rw [← lst_eq]
   cases hl : lst listed e.on with
   | false => simp
   | true => simpa using ih
def rdy (listed : List Bool) : Nat → List Oper → List Nat
 | _, [] => []
 | i, o :: r => match lst listed i with
  | true => rdy listed (i + 1) r
  | false => match edgesUp listed o.after.toList with
   | true => i :: rdy listed (i + 1) r
   | false => rdy listed (i + 1) r
theorem mem_rdy {listed : List Bool} : ∀ {ops : List Oper} {i j : Nat}, j ∈ rdy listed i ops ↔ i ≤ j ∧ lst listed j = false ∧ ∃ o, ops[j - i]? = some o ∧ edgesUp listed o.after.toList = true
 | [], i, j => by simp [rdy]
 | o :: r, i, j => by
  have ih := mem_rdy (listed := listed) (ops := r) (i := i + 1) (j := j)
  have step : (i + 1 ≤ j ∧ lst listed j = false ∧ ∃ o, r[j - (i + 1)]? = some o ∧ edgesUp listed o.after.toList = true) ↔ (i < j ∧ lst listed j = false ∧ ∃ o', (o :: r)[j - i]? = some o' ∧ edgesUp listed o'.after.toList = true) := by
   constructor
   ·rintro ⟨h1, h2, h3⟩
    refine ⟨h1, h2, ?_⟩
    rw [show j - i = (j - (i + 1)) + 1 by omega, List.getElem?_cons_succ]
    exact h3
   ·rintro ⟨h1, h2, h3⟩
    rw [show j - i = (j - (i + 1)) + 1 by omega, List.getElem?_cons_succ] at h3
    exact ⟨h1, h2, h3⟩
  unfold rdy
  split
  ·rename_i hl
   rw [ih, step]
   constructor
   ·rintro ⟨h1, h2⟩; exact ⟨by omega, h2⟩
   ·rintro ⟨h1, h2, h3⟩
    refine ⟨?_, h2, h3⟩
    rcases Nat.lt_or_ge i j with h | h
    ·exact h
    ·have : j = i := by omega
     subst this
     rw [hl] at h2
     simp at h2
  ·rename_i hl
   split
   ·rename_i he
    rw [List.mem_cons, ih, step]
    constructor
    ·rintro (rfl | ⟨h1, h2⟩)
     ·exact ⟨Nat.le_refl _, hl, o, by simp, he⟩
     ·exact ⟨by omega, h2⟩
    ·rintro ⟨h1, h2⟩
     rcases Nat.lt_or_ge i j with h | h
     ·exact .inr ⟨h, h2⟩
     ·exact .inl (by omega)
   ·rename_i he
    rw [ih, step]
    constructor
    ·rintro ⟨h1, h2⟩; exact ⟨by omega, h2⟩
    ·rintro ⟨h1, h2, o', h3, h4⟩
     refine ⟨?_, h2, o', h3, h4⟩
     rcases Nat.lt_or_ge i j with h | h
     ·exact h
     ·have : j = i := by omega
      subst this
      rw [Nat.sub_self] at h3
      simp only [List.getElem?_cons_zero, Option.some.injEq] at h3
      subst h3
      rw [he] at h4
      simp at h4
def sameL : List Oper → List Bool → Bool
 | [], [] => true
 | _ :: l, _ :: r => sameL l r
 | _, _ => false
theorem sameL_len : ∀ {l : List Oper} {r : List Bool}, sameL l r = true → l.length = r.length
 | [], [], _ => rfl
 | _ :: l, _ :: r, h => by simp [sameL_len (l := l) (r := r) h]
 | [], _ :: _, h => by simp [sameL] at h
 | _ :: _, [], h => by simp [sameL] at h
theorem ready_rdy {ops : List Oper} {listed : List Bool} (hs : sameL ops listed = true) {j : Nat} : j ∈ Region.ready .any ⟨ops⟩ ⟨listed⟩ ↔ j ∈ rdy listed 0 ops := by
 have hlen := sameL_len hs
 rw [mem_ready, mem_rdy]
 simp only [Nat.zero_le, true_and, Nat.sub_zero, edgesUp_iff, List.getElem?_toArray, Array.mem_toList_iff]
 constructor
 ·rintro ⟨h1, o, h2, h3⟩
  have hlt : j < listed.length := by rw [← hlen]; exact (List.getElem?_eq_some_iff.1 h2).1
  refine ⟨?_, o, h2, h3⟩
  rw [lst_eq]
  simp only [Array.getD_eq_getD_getElem?, List.getElem?_toArray, List.getElem?_eq_getElem hlt, Option.getD_some] at h1 ⊢
  exact h1
 ·rintro ⟨h1, o, h2, h3⟩
  have hlt : j < listed.length := by rw [← hlen]; exact (List.getElem?_eq_some_iff.1 h2).1
  refine ⟨?_, o, h2, h3⟩
  rw [lst_eq] at h1
  simp only [Array.getD_eq_getD_getElem?, List.getElem?_toArray, List.getElem?_eq_getElem hlt, Option.getD_some] at h1 ⊢
  exact h1
def opsl : List Operand → List Nat
 | [] => []
 | .tmp s :: l => s :: opsl l
 | _ :: l => opsl l
def optO : Option Operand → List Operand
 | some x => [x]
 | none => []
def snds : List (Nat × Operand) → List Operand
 | [] => []
 | p :: l => p.2 :: snds l
def apO : List Operand → List Operand → List Operand
 | [], l => l
 | x :: r, l => x :: apO r l
def usesO : Op → Option (List Operand)
 | .alloc _ => some []
 | .move x => some [x]
 | .assign x => some [x]
 | .box _ x => some [x]
 | .load _ x => some [x]
 | .nilCheck x => some [x]
 | .unOp _ _ x => some [x]
 | .convert _ _ x => some [x]
 | .makeInterface _ x => some [x]
 | .fieldAddr _ x _ => some [x]
 | .field _ x _ => some [x]
 | .range _ x => some [x]
 | .next x _ => some [x]
 | .entry x => some [x]
 | .extract x _ => some [x]
 | .panic x => some [x]
 | .pick c a b => some [c, a, b]
 | .build _ ⟨ps⟩ => some (snds ps)
 | .buildSlice _ _ ⟨ps⟩ => some (snds ps)
 | .store _ a v => some [a, v]
 | .binOp _ _ a v _ => some [a, v]
 | .makeSlice _ a v => some [a, v]
 | .indexAddr _ a v => some [a, v]
 | .index _ a v => some [a, v]
 | .lookup _ a v _ => some [a, v]
 | .mapEntry _ a v => some [a, v]
 | .makeFunc _ ⟨f⟩ ⟨c⟩ => some (apO f c)
 | .makeMap _ r => some (optO r)
 | .slice _ x l h m => some (x :: apO (optO l) (apO (optO h) (optO m)))
 | .mapUpdate _ m k v => some [m, k, v]
 | .entryStore _ m k v => some [m, k, v]
 | .insert _ m k v => some [m, k, v]
 | .call ⟨.value f, ⟨as⟩, _⟩ => some (f :: as)
 | .call ⟨.builtin _, ⟨as⟩, _⟩ => some as
 | _ => none
theorem snds_eq : ∀ l : List (Nat × Operand), snds l = l.map (·.2)
 | [] => rfl
 | p :: l => by simp [snds, snds_eq l]
theorem apO_eq : ∀ l r : List Operand, apO l r = l ++ r
 | [], r => rfl
 | x :: l, r => by simp [apO, apO_eq l r]
theorem optO_eq : ∀ l : Option Operand, optO l = l.toArray.toList
 | none => rfl
 | some x => rfl
theorem usesO_eq {op : Op} {l : List Operand} (h : usesO op = some l) : op.operands.toList = l := by
 cases op <;> simp only [usesO, Option.some.injEq, reduceCtorEq] at h <;> try (subst h; simp [Op.operands]; done)
 case makeFunc fn f c =>
  obtain ⟨f⟩ := f; obtain ⟨c⟩ := c
  simp only [Option.some.injEq] at h; subst h
  simp [Op.operands, apO_eq]
 case build t ps =>
  obtain ⟨ps⟩ := ps
  simp only [Option.some.injEq] at h; subst h
  simp [Op.operands, snds_eq]
 case buildSlice t n ps =>
  obtain ⟨ps⟩ := ps
  simp only [Option.some.injEq] at h; subst h
  simp [Op.operands, snds_eq]
 case makeMap t r => subst h; simp [Op.operands, optO_eq]
 case slice t x lo hi mx => subst h; simp [Op.operands, optO_eq, apO_eq]
 case call c =>
  obtain ⟨ce, ⟨as⟩, tys⟩ := c
  cases ce <;> simp only [Option.some.injEq, reduceCtorEq] at h
  ·subst h; simp [Op.operands, Call.operands]
  ·subst h; simp [Op.operands, Call.operands]
def guardS (ops : List Oper) : Option (Nat × Bool) → List Nat
 | none => []
 | some (g, _) => match nth ops g with
  | some o => match o.dst with
   | some d => [d]
   | none => []
  | none => []
def notIn (d : Nat) : List Nat → Bool
 | [] => true
 | a :: l => match Nat.beq a d with
  | true => false
  | false => notIn d l
theorem notIn_iff {d : Nat} : ∀ {l : List Nat}, notIn d l = true ↔ d ∉ l
 | [] => by simp [notIn]
 | a :: l => by
  unfold notIn
  split
  ·rename_i h; simp [Nat.eq_of_beq_eq_true h]
  ·rename_i h
   have := Nat.ne_of_beq_eq_false h
   simp only [List.mem_cons, not_or, notIn_iff (l := l)]
   constructor
   ·exact fun k => ⟨Ne.symm this, k⟩
   ·exact fun k => k.2
def looks (ops : List Oper) (o : Oper) : Option (List Nat) :=
 match usesO o.op with
 | some l => some (opsl l ++ guardS ops o.guard)
 | none => none
theorem opsl_eq : ∀ l : List Operand, l.filterMap (fun | .tmp t => some t | _ => none) = opsl l
 | [] => rfl
 | x :: l => by
  cases x <;> simp [opsl, opsl_eq l]
theorem looks_eq {ops : List Oper} {o : Oper} {l : List Nat} (h : looks ops o = some l) : o.looksAt ⟨ops⟩ = l := by
 unfold looks at h
 split at h
 ·rename_i r hr
  simp only [Option.some.injEq] at h; subst h
  unfold Oper.looksAt
  rw [usesO_eq hr]
  congr 1
  ·exact opsl_eq r
  ·unfold guardS
   split
   ·rename_i g b hg
    simp only [hg, List.getElem?_toArray, nth_eq]
    cases ops[g]? with
    | none => rfl
    | some o' => cases ho : o'.dst <;> simp [ho]
   ·rename_i hg; simp [hg]
 ·simp at h
def sameD (d : Nat) : Option Nat → Bool
 | some e => Nat.beq e d
 | none => false
def apartB (ops : List Oper) (d : Nat) (li : List Nat) (y : Oper) : Bool :=
 match looks ops y with
 | some ly => match notIn d ly, sameD d y.dst with
  | true, false => match y.dst with
   | some e => notIn e li
   | none => true
  | _, _ => false
 | none => false
theorem apartB_sound {ops : List Oper} {d : Nat} {li : List Nat} {x y : Oper} (hx : x.dst = some d) (hl : looks ops x = some li) (h : apartB ops d li y = true) : x.apart ⟨ops⟩ y = true := by
 unfold apartB at h
 split at h <;> try (simp at h; done)
 rename_i ly hly
 split at h <;> try (simp at h; done)
 rename_i h1 h2
 have e1 := looks_eq hl
 have e2 := looks_eq hly
 have n1 := notIn_iff.1 h1
 unfold Oper.apart
 rw [hx, e1, e2]
 have hd : y.dst ≠ some d := by
  intro hy
  rw [hy] at h2
  simp [sameD] at h2
 simp only [Bool.and_eq_true, Bool.not_eq_true', List.contains_eq_mem, decide_eq_false_iff_not, bne_iff_ne, ne_eq]
 refine ⟨⟨n1, hd⟩, ?_⟩
 split
 ·rename_i e he
  rw [he] at h
  simp only at h
  simpa using notIn_iff.1 h
 ·rfl
def waitsOn (i : Nat) : List Edge → Bool
 | [] => false
 | e :: l => match bindsE e with
  | true => match Nat.beq e.on i with
   | true => true
   | false => waitsOn i l
  | false => waitsOn i l
theorem waitsOn_iff {i : Nat} : ∀ {l : List Edge}, waitsOn i l = true ↔ ∃ e ∈ l, Region.binds .any e = true ∧ e.on = i
 | [] => by simp [waitsOn]
 | e :: l => by
  have ih := waitsOn_iff (i := i) (l := l)
  unfold waitsOn
  simp only [List.mem_cons, exists_eq_or_imp, bindsE_eq] at *
  split
  ·rename_i hb
   split
   ·rename_i he; simp [hb, Nat.eq_of_beq_eq_true he]
   ·rename_i he; simp [hb, Nat.ne_of_beq_eq_false he, ih]
  ·rename_i hb; simp [hb, ih]
def freeB (all : List Oper) (listed : List Bool) (i d : Nat) (li : List Nat) : Nat → List Oper → Bool
 | _, [] => true
 | j, o :: r => match Nat.beq j i with
  | true => freeB all listed i d li (j + 1) r
  | false => match lst listed j with
   | true => freeB all listed i d li (j + 1) r
   | false => match waitsOn i o.after.toList with
    | true => freeB all listed i d li (j + 1) r
    | false => match apartB all d li o with
     | true => freeB all listed i d li (j + 1) r
     | false => false
theorem freeB_sound {all : List Oper} {listed : List Bool} {i d : Nat} {li : List Nat} {x : Oper} (hx : x.dst = some d) (hl : looks all x = some li) : ∀ {ops : List Oper} {s : Nat}, freeB all listed i d li s ops = true →
  ∀ j oj, s ≤ j → ops[j - s]? = some oj → j ≠ i → lst listed j = false → (∀ e ∈ oj.after.toList, Region.binds .any e = true → e.on ≠ i) → x.apart ⟨all⟩ oj = true
 | [], s, _, j, oj, _, ho, _, _, _ => by simp at ho
 | o :: r, s, h, j, oj, hs, ho, hji, hun, hno => by
  unfold freeB at h
  by_cases hjs : j = s
  ·subst hjs
   rw [Nat.sub_self] at ho
   simp only [List.getElem?_cons_zero, Option.some.injEq] at ho
   subst ho
   split at h
   ·rename_i hb; exact absurd (Nat.eq_of_beq_eq_true hb) hji
   ·split at h
    ·rename_i hb; rw [hun] at hb; simp at hb
    ·split at h
     ·rename_i hb
      obtain ⟨e, k1, k2, k3⟩ := waitsOn_iff.1 hb
      exact absurd k3 (hno e k1 k2)
     ·split at h
      ·rename_i hb; exact apartB_sound hx hl hb
      ·simp at h
  ·have ho' : r[j - (s + 1)]? = some oj := by
    rw [show j - s = (j - (s + 1)) + 1 by omega, List.getElem?_cons_succ] at ho
    exact ho
   have next : freeB all listed i d li (s + 1) r = true := by
    split at h
    ·exact h
    ·split at h
     ·exact h
     ·split at h
      ·exact h
      ·split at h
       ·exact h
       ·simp at h
   exact freeB_sound hx hl next j oj (by omega) ho' hji hun hno
def noSelB : List Oper → Bool
 | [] => true
 | o :: r => match o.op with
  | .select _ _ => false
  | _ => noSelB r
theorem noSelB_sound : ∀ {ops : List Oper}, noSelB ops = true → ∀ (j : Nat) (o : Oper) cs b, ops[j]? = some o → o.op ≠ .select cs b
 | [], _, j, o, cs, b, ho => by simp at ho
 | x :: r, h, j, o, cs, b, ho => by
  unfold noSelB at h
  split at h
  ·simp at h
  ·rename_i hx
   cases j with
   | zero => simp at ho; subst ho; exact hx cs b
   | succ j => exact noSelB_sound h j o cs b (by simpa using ho)
def waitsAny (i : Nat) (sh : List Nat) : List Edge → Bool
 | [] => false
 | e :: l => match bindsE e with
  | true => match Nat.beq e.on i with
   | true => true
   | false => match lstN e.on sh with
    | true => true
    | false => waitsAny i sh l
  | false => waitsAny i sh l
where lstN (x : Nat) : List Nat → Bool
 | [] => false
 | a :: l => match Nat.beq a x with
  | true => true
  | false => lstN x l
def shield (i : Nat) (listed : List Bool) : Nat → List Nat → List Oper → List Nat
 | _, sh, [] => sh
 | j, sh, o :: r => match Nat.beq j i, lst listed j, waitsAny i sh o.after.toList with
  | false, false, true => shield i listed (j + 1) (j :: sh) r
  | _, _, _ => shield i listed (j + 1) sh r
def allIn (sh : List Nat) : List Nat → Bool
 | [] => true
 | e :: l => match waitsAny.lstN e sh with
  | true => allIn sh l
  | false => false
def endsOk (ops : List Oper) (listed : List Bool) (i : Nat) : List Nat → Bool
 | [] => true
 | e :: l => allIn (shield i listed 0 [] ops) (e :: l)
theorem lstN_iff {x : Nat} : ∀ {l : List Nat}, waitsAny.lstN x l = true ↔ x ∈ l
 | [] => by simp [waitsAny.lstN]
 | a :: l => by
  unfold waitsAny.lstN
  split
  ·rename_i h; simp [Nat.eq_of_beq_eq_true h]
  ·rename_i h
   have hn := Ne.symm (Nat.ne_of_beq_eq_false h)
   simp [hn, lstN_iff (l := l)]
theorem waitsAny_sound {i : Nat} {sh : List Nat} : ∀ {l : List Edge}, waitsAny i sh l = true → ∃ e ∈ l, Region.binds .any e = true ∧ (e.on = i ∨ e.on ∈ sh)
 | [], h => by simp [waitsAny] at h
 | e :: l, h => by
  have ih := waitsAny_sound (i := i) (sh := sh) (l := l)
  unfold waitsAny at h
  split at h
  ·rename_i hb
   have hb : Region.binds .any e = true := by simpa [bindsE_eq] using hb
   split at h
   ·rename_i he; exact ⟨e, by simp, hb, .inl (Nat.eq_of_beq_eq_true he)⟩
   ·split at h
    ·rename_i hl; exact ⟨e, by simp, hb, .inr (lstN_iff.1 hl)⟩
    ·obtain ⟨e', h1, h2⟩ := ih h; exact ⟨e', by simp [h1], h2⟩
  ·obtain ⟨e', h1, h2⟩ := ih h; exact ⟨e', by simp [h1], h2⟩
theorem shield_sound {ops : List Oper} {listed : List Bool} {i : Nat} : ∀ (r : List Oper) (j : Nat) (sh : List Nat), (∀ k, r[k]? = ops[j + k]?) →
  (∀ e ∈ sh, lst listed e = false ∧ e ≠ i ∧ ∀ oe, ops[e]? = some oe → ∃ ed ∈ oe.after.toList, Region.binds .any ed = true ∧ (ed.on = i ∨ ed.on ∈ sh)) →
  ∀ e ∈ shield i listed j sh r, lst listed e = false ∧ e ≠ i ∧ ∀ oe, ops[e]? = some oe → ∃ ed ∈ oe.after.toList, Region.binds .any ed = true ∧ (ed.on = i ∨ ed.on ∈ shield i listed j sh r)
 | [], j, sh, _, h => by simpa [shield] using h
 | o :: r, j, sh, hr, h => by
  have hr' : ∀ k, r[k]? = ops[j + 1 + k]? := fun k => by have := hr (k + 1); simpa [Nat.add_assoc, Nat.add_comm 1 k] using this
  have ho : ops[j]? = some o := by simpa using (hr 0).symm
  unfold shield
  split
  ·rename_i h1 h2 h3
   refine shield_sound r (j + 1) (j :: sh) hr' ?_
   intro e he
   rcases List.mem_cons.1 he with rfl | he
   ·refine ⟨h2, Nat.ne_of_beq_eq_false h1, fun oe hoe => ?_⟩
    rw [ho] at hoe
    simp only [Option.some.injEq] at hoe; subst hoe
    obtain ⟨ed, k1, k2, k3⟩ := waitsAny_sound h3
    exact ⟨ed, k1, k2, k3.imp id (fun k => List.mem_cons_of_mem _ k)⟩
   ·obtain ⟨a1, a2, a3⟩ := h e he
    refine ⟨a1, a2, fun oe hoe => ?_⟩
    obtain ⟨ed, k1, k2, k3⟩ := a3 oe hoe
    exact ⟨ed, k1, k2, k3.imp id (fun k => List.mem_cons_of_mem _ k)⟩
  ·exact shield_sound r (j + 1) sh hr' h
theorem allIn_sound {sh : List Nat} : ∀ {l : List Nat}, allIn sh l = true → ∀ e ∈ l, e ∈ sh
 | [], _ => by simp
 | a :: l, h => by
  unfold allIn at h
  split at h <;> try (simp at h; done)
  rename_i ha
  intro e he
  rcases List.mem_cons.1 he with rfl | he
  ·exact lstN_iff.1 ha
  ·exact allIn_sound h e he
theorem endsOk_sound {ops : List Oper} {listed : List Bool} {i : Nat} {ends : List Nat} (h : endsOk ops listed i ends = true) :
  ∃ sh : List Nat, (∀ e ∈ ends, e ∈ sh) ∧ (∀ e ∈ sh, (⟨listed⟩ : Array Bool).getD e false = false) ∧
   ∀ e ∈ sh, e ≠ i ∧ ∀ oe, (⟨ops⟩ : Array Oper)[e]? = some oe → ∃ ed ∈ oe.after, Region.binds .any ed = true ∧ (ed.on = i ∨ ed.on ∈ sh) := by
 cases ends with
 | nil => exact ⟨[], by simp, by simp, by simp⟩
 | cons e l =>
  have hs := shield_sound (ops := ops) (listed := listed) (i := i) ops 0 [] (fun k => by simp) (by simp)
  refine ⟨shield i listed 0 [] ops, allIn_sound h, fun e he => ?_, fun e he => ⟨(hs e he).2.1, fun oe hoe => ?_⟩⟩
  ·rw [← lst_eq]; exact (hs e he).1
  ·obtain ⟨ed, k1, k2, k3⟩ := (hs e he).2.2 oe (by simpa using hoe)
   exact ⟨ed, by simpa using k1, k2, k3⟩
end Go.Proofs.YtglnnhmmipopiaaGreat

set_option linter.all false
namespace Go.Proofs.YtglnnhmmipopiaaGreat
abbrev View := Addr → Option Value
def VLe (V V' : View) : Prop := ∀ a x, V a = some x → V' a = some x
def Holds (V : View) (w : World) : Prop := ∀ a x, V a = some x → w.cell? a = some x
theorem VLe.refl (V : View) : VLe V V := fun _ _ h => h
theorem VLe.trans {V V' V'' : View} (h : VLe V V') (k : VLe V' V'') : VLe V V'' := fun a x hx => k a x (h a x hx)
structure Frm where
 os : Os
 tape : Nat → Question → Nat
 output : Array (Nat × ByteArray)
 blk : Nat → Option Obj
def rowSat (w : World) (e sz : Nat) (x : Value) (cs : List Value) : Prop := ∃ n, w.ownsRow 0 e sz x n cs
def OB.sat (env : List Nat) (M : List OB) (w : World) (b : Nat) : OB → Prop
 | .gone => True
 | .blk cs ty => w.heap[b]? = some (.cells ⟨cs.map (den env)⟩ ty (0, 0)) ∧ ∀ x ∈ cs, x.ok M
 | .row x cs e sz => rowSat w e sz x cs
def OB.own (b : Nat) : OB → Addr → Prop
 | .gone, _ => False
 | .blk _ _, a => a.block = b
 | .row x _ _ _, a => x.ownBlock = some a.block
structure WOk (V0 : View) (FR : Frm) (env : List Nat) (V : View) (M : List OB) (w : World) : Prop where
 os : w.os = FR.os
 tape : w.tape = FR.tape
 output : w.output = FR.output
 frame : ∀ b o, FR.blk b = some o → w.heap[b]? = some o
 le : VLe V0 V
 holds : Holds V w
 fresh : ∀ a x, V a = some x → V0 a = some x ∨ FR.blk a.block = none
 len : env.length = M.length
 sat : ∀ (i : Nat) (o : OB), M[i]? = some o → o.sat env M w (envAt env i)
 apartV : ∀ (i : Nat) (o : OB) a, M[i]? = some o → o.own (envAt env i) a → V a = none
 apartF : ∀ (i : Nat) (o : OB) a, M[i]? = some o → o.own (envAt env i) a → FR.blk a.block = none
 apart : ∀ (i j : Nat) (o o' : OB) a, i ≠ j → M[i]? = some o → M[j]? = some o' → o.own (envAt env i) a → ¬ o'.own (envAt env j) a
def LOk (env : List Nat) (M : List OB) (L : Fr) (t : Array Value) : Prop := ∀ s x, lookL L s = some x → t[s]? = some (den env x) ∧ x.ok M
def RdM (env : List Nat) (M Mr : List OB) (w : World) : Prop :=
 (∀ (i : Nat) (cs : List SV) (ty : Nat), Mr[i]? = some (.blk cs ty) → w.heap[envAt env i]? = some (.cells ⟨cs.map (den env)⟩ ty (0, 0)) ∧ ∀ x ∈ cs, x.ok M) ∧
  ∀ (i : Nat) (x : Value) (cs : List Value) (e sz : Nat), Mr[i]? = some (.row x cs e sz) → rowSat w e sz x cs
theorem WOk.rd {V0 V : View} {FR : Frm} {env : List Nat} {M : List OB} {w : World} (h : WOk V0 FR env V M w) : RdM env M M w := ⟨fun i _ _ hi => h.sat i _ hi, fun i _ _ _ _ hi => h.sat i _ hi⟩
def condT (t : Array Value) : List (Nat × Bool) → Prop
 | [] => True
 | a :: l => t[a.1]? = some (.bool a.2) ∧ condT t l
def ROk (env : List Nat) (M : List OB) (lr : List REnt) (t : Array Value) : Prop :=
 ∀ s e, lookR lr s = some e → (condT t e.c → t[s]? = some (den env e.x) ∧ e.x.ok M) ∧ (¬ condT t e.c → t[s]? = some undef) ∧ t[e.r]? = t[s]?
structure Ctx where
 P : Program
 T : List TyD
 fn : Func
 nt : Nat
 V0 : View
 R : View → Value → List OB → Prop
structure Draw where
 all : List Oper
 listed : List Bool
 n : Nat
 ends : List Nat
 n0 : Nat
 mask : List Nat
 V : View
 plan : List (Nat × Bool)
 lr : List REnt
structure DFr where
 env : List Nat
 V : View
 M : List OB
def DFr.none : DFr := ⟨[], fun _ => Option.none, []⟩
def SD (DF : DFr) (w : World) : Prop :=
 Holds DF.V w ∧ (∀ (i : Nat) (cs : List SV) (ty : Nat), DF.M[i]? = some (.blk cs ty) → w.heap[envAt DF.env i]? = some (.cells ⟨cs.map (den DF.env)⟩ ty (0, 0))) ∧
  ∀ (i : Nat) (x : Value) (cs : List Value) (e sz : Nat), DF.M[i]? = some (.row x cs e sz) → rowSat w e sz x cs
def noneUp : List Nat → List Bool → Bool
 | [], _ => true
 | e :: l, ls => match lst ls e with
  | true => false
  | false => noneUp l ls
def takeL {α : Type} : Nat → List α → List α
 | 0, _ => []
 | _ + 1, [] => []
 | n + 1, a :: l => a :: takeL n l
def inL (i : Nat) : List Nat → Bool
 | [] => false
 | a :: l => match Nat.beq a i with
  | true => true
  | false => inL i l
def rdM (mask : List Nat) : Nat → Nat → List OB → List OB
 | _, 0, _ => []
 | _, _ + 1, [] => []
 | i, n + 1, b :: l => match inL i mask with
  | true => .gone :: rdM mask (i + 1) n l
  | false => b :: rdM mask (i + 1) n l
def drawOk (all : List Oper) (ends : List Nat) (listed : List Bool) (i d : Nat) (li : List Nat) : Bool :=
 match noSelB all, sameL all listed, freeB all listed i d li 0 all, endsOk all listed i ends with
 | true, true, true, true => true
 | _, _, _, _ => false
def headD (all : List Oper) (ends : List Nat) (listed : List Bool) (i : Nat) : Bool :=
 match nth all i with
 | some o => match o.dst, looks all o with
  | some d, some li => match drawOk all ends listed i d li with
   | true => inL i (rdy listed 0 all)
   | false => false
  | _, _ => false
 | none => false
def loneI (i : Nat) : List Nat → Bool
 | [j] => Nat.beq j i
 | _ => false
def planOk (all : List Oper) (ends : List Nat) : Nat → List Bool → List (Nat × Bool) → Bool
 | _, _, [] => true
 | 0, _, _ :: _ => false
 | n + 1, listed, (i, true) :: r => match headD all ends listed i with
  | true => planOk all ends n (setT listed i) r
  | false => false
 | n + 1, listed, (i, false) :: r => match sameL all listed, loneI i (rdy listed 0 all) with
  | true, true => planOk all ends n (setT listed i) r
  | _, _ => false
structure DOk0 (DF : DFr) (D : Draw) (env : List Nat) (V : View) (M : List OB) : Prop where
 pre : ∃ r, env = DF.env ++ r
 len : DF.env.length = D.n0
 lenM : D.n0 ≤ M.length
 v : DF.V = D.V
 vle : VLe DF.V V
 ok : ∃ M1 : List OB, M1.length = D.n0 ∧ ∀ (i : Nat) (cs : List SV) (ty : Nat), DF.M[i]? = some (.blk cs ty) → ∀ x ∈ cs, x.ok M1
 mem : noneUp D.ends D.listed = true → DF.M = rdM D.mask 0 D.n0 M
 plan : planOk D.all D.ends D.n D.listed D.plan = true
inductive Kt where
 | draw (D : Draw)
 | code (c : Code)
 | inBlock (id : Nat)
 | inLoop (I : Fr → View → List OB → Prop)
 | ops (rest all : List Oper) (lr : List REnt)
structure St where
 k : List Kt
 L : Fr
 M : List OB
def endP (C : Ctx) (FR : Frm) (e : Ending) (w : World) : Prop :=
 ∃ v env V M, e = .returned v ∧ WOk C.V0 FR env V M w ∧ C.R V v M
def post (C : Ctx) (FR : Frm) : DFr → List Kt → Exit → Act → World → Prop
 | _, [] => bodyPost C.P C.fn (endP C FR)
 | _, .code c :: k => Exit.then (c.wp C.P (post C FR .none k)) (post C FR .none k)
 | _, .inBlock id :: k => Exit.inBlock id (post C FR .none k)
 | _, .inLoop I :: k => Exit.then (fun a w => a.defers = [] ∧ a.tmps.size = C.nt ∧ ∃ env L V M, WOk C.V0 FR env V M w ∧ LOk env M L a.tmps ∧ I L V M) (post C FR .none k)
 | DF, .ops rest all _ :: k => Exit.then (wpList C.P ⟨all⟩ (post C FR DF k) rest) (post C FR DF k)
 | DF, .draw D :: k => Exit.then (fun a w => SF D.ends (SD DF) ⟨D.listed⟩ w ∧ wpAnyG C.P ⟨D.all⟩ (post C FR .none k) (SF D.ends (SD DF)) D.n ⟨D.listed⟩ a w) (post C FR .none k)
def hdR : List Kt → List REnt
 | .ops _ _ lr :: _ => lr
 | .draw D :: _ => D.lr
 | _ => []
def DOk (DF : DFr) (env : List Nat) (V : View) (M : List OB) : List Kt → Prop
 | .draw D :: _ => DOk0 DF D env V M
 | .ops _ _ _ :: .draw D :: _ => DOk0 DF D env V M
 | _ => True
@[irreducible] def Exec (C : Ctx) (s : St) (V : View) : Prop :=
 ∀ FR DF env t w, t.size = C.nt → WOk C.V0 FR env V s.M w → LOk env s.M s.L t → ROk env s.M (hdR s.k) t → DOk DF env V s.M s.k → post C FR DF s.k .normal ⟨t, []⟩ w

/-! ### The step function -/
def exitK (id : Nat) : List Kt → Option (List Kt)
 | [] => none
 | .inBlock id' :: k => match Nat.beq id' id with
  | true => some k
  | false => exitK id k
 | _ :: k => exitK id k
def setN {α : Type} : List α → Nat → α → Option (List α)
 | [], _, _ => none
 | _ :: l, 0, x => some (x :: l)
 | a :: l, n + 1, x => match setN l n x with
  | some r => some (a :: r)
  | none => none
def snocN {α : Type} : List α → α → Nat → Option (List α × Nat)
 | [], x, i => some ([x], i)
 | a :: l, x, i => match snocN l x (i + 1) with
  | some (r, n) => some (a :: r, n)
  | none => none
def liftV : List Value → Option (List SV)
 | [] => some []
 | x :: l => match liftV l with
  | some r => some (.v x :: r)
  | none => none
def cellsV : SV → Option (List SV)
 | .v (.agg ⟨cs⟩) => liftV cs
 | .v x => some [.v x]
 | x => some [x]
def one : SV → Bool
 | .v (.agg _) => false
 | .v (.tuple _) => false
 | .v (.bool _) => true
 | .v (.int _ _) => true
 | .v (.string _) => true
 | .v (.pointer _) => true
 | .v (.slice _ _ _) => true
 | .v (.map _) => true
 | .v (.func _ _ _) => true
 | .v .nilFunc => true
 | .v (.iface _ _) => true
 | .v .nilIface => true
 | .ptr _ _ => true
 | .slc _ _ _ _ => true
 | .el _ _ => true
 | _ => false
def allOne : List SV → Bool
 | [] => true
 | x :: l => match one x with
  | true => allOne l
  | false => false
def fillSV (place : Nat → Option (Nat × Nat)) (e : Operand → Option SV) (cs : List SV) : List (Nat × Operand) → Option (List SV)
 | [] => some cs
 | (i, x) :: r => match place i with
  | some (off, size) => match e x with
   | some v => match cellsV v with
    | some vs => match Nat.beq vs.length size with
     | true => match putN cs off vs with
      | some cs' => fillSV place e cs' r
      | none => none
     | false => none
    | none => none
   | none => none
  | none => none
def placeOf (T : List TyD) (t : Nat) (i : Nat) : Option (Nat × Nat) :=
 match fieldV T t i with
 | some (off, fd) => some (off, fd.size)
 | none => none
def allF (T : List TyD) : List (Nat × Nat) → Bool
 | [] => true
 | (_, ft) :: r => match nth T ft with
  | some fd => match fd.size with
   | 0 => false
   | _ + 1 => allF T r
  | none => false
def buildSV (T : List TyD) (t : Nat) (parts : List (Nat × Operand)) (e : Operand → Option SV) : Option SV :=
 match nth T t with
 | some d => match d.size with
  | 0 => none
  | _ + 1 => match d.und with
   | .struct fs => match allF T fs with
    | true => match liftV d.zero with
     | some z => match fillSV (placeOf T t) e z parts with
      | some cs => match vals cs with
       | some l => some (.v (.agg ⟨l⟩))
       | none => none
      | none => none
     | none => none
    | false => none
   | _ => none
 | none => none
def repN (z : List SV) : Nat → Option (List SV)
 | 0 => some []
 | n + 1 => match repN z n with
  | some r => some (z ++ r)
  | none => none
def valOf (T : List TyD) (od : Look) (M : List OB) (G : List (Nat × Bool)) (op : Op) : Option (SV × Option Nat) :=
 match op with
 | .move x => match od x with
  | some (c, v, r) => match subC c G with
   | true => match subC G c with
    | true => some (v, r)
    | false => some (v, none)
   | false => none
  | none => none
 | .pick c a b => match od c with
  | some (cc, .v (.bool x), rc) => match subC cc G with
   | true => match rc with
    | some r => match ev od ((r, true) :: G) a, ev od ((r, false) :: G) b with
     | some va, some vb => match pickSV x a b va vb with
      | some v => some (v, none)
      | none => none
     | _, _ => none
    | none => match ev od G a, ev od G b with
     | some va, some vb => match pickSV x a b va vb with
      | some v => some (v, none)
      | none => none
     | _, _ => none
   | false => none
  | _ => none
 | .load t x => match nth T t with
  | some d => match d.size with
   | 0 => none
   | _ + 1 => match ev od G x with
    | some (.ptr i o) => match nth M i with
     | some (.blk cs _) => match loadSV d cs o with
      | some v => some (v, none)
      | none => none
     | _ => none
    | _ => none
  | none => none
 | .nilCheck x => match ev od G x with
  | some (.ptr i o) => some (.ptr i o, none)
  | some (.v (.pointer (some a))) => some (.v (.pointer (some a)), none)
  | _ => none
 | .build t ⟨parts⟩ => match buildSV T t parts (ev od G) with
  | some v => some (v, none)
  | none => none
 | op => match pv T op (ev od G) with
  | some v => some (v, none)
  | none => none
def memOf (T : List TyD) (od : Look) (M : List OB) (op : Op) : Option (Option SV × List OB) :=
 match op with
 | .store t x y => match nth T t with
  | some d => match d.size with
   | 0 => none
   | sz + 1 => match ev od [] x, ev od [] y with
    | some (.ptr i o), some v => match nth M i with
     | some (.blk cs ty) => match cellsV v with
      | some vs => match Nat.beq vs.length (sz + 1), allOne vs with
       | true, true => match putN cs o vs with
        | some cs' => match setN M i (.blk cs' ty) with
         | some M' => some (none, M')
         | none => none
        | none => none
       | _, _ => none
      | none => none
     | _ => none
    | _, _ => none
  | none => none
 | .box t x => match ev od [] x with
  | some v => match cellsV v with
   | some cs => match snocN M (.blk cs t) 0 with
    | some (M', n) => some (some (.ptr n 0), M')
    | none => none
   | none => none
  | none => none
 | .alloc t => match nth T t with
  | some d => match d.size with
   | 0 => none
   | _ + 1 => match liftV d.zero with
    | some z => match snocN M (.blk z t) 0 with
     | some (M', n) => some (some (.ptr n 0), M')
     | none => none
    | none => none
  | none => none
 | _ => none
def bslOf (T : List TyD) (od : Look) (M : List OB) (op : Op) : Option (SV × List OB × Nat × List SV × Nat) :=
 match op with
 | .buildSlice t len ⟨parts⟩ => match nth T t with
  | some d => match d.size with
   | 0 => none
   | _ + 1 => match d.und with
    | .slice e => match nth T e with
     | some ed => match ed.size with
      | 0 => none
      | sz + 1 => match Nat.ble (len * (sz + 1)) 16777216, liftV ed.zero, Nat.beq ed.zero.length (sz + 1) with
       | true, some z, true => match repN z len with
        | some cs0 => match fillSV (fun i => some (i * (sz + 1), sz + 1)) (ev od []) cs0 parts with
         | some cs => match snocN M (.blk cs e) 0 with
          | some (M', n) => some (.slc n 0 len len, M', n, cs, e)
          | none => none
         | none => none
        | none => none
       | _, _, _ => none
     | none => none
    | _ => none
  | none => none
 | _ => none
def wrOk (i : Nat) : List Kt → Bool
 | .draw D :: _ => match noneUp D.ends D.listed with
  | true => match inL i D.mask with
   | true => true
   | false => Nat.ble D.n0 i
  | false => true
 | _ => true
def stAt (od : Look) : Op → Option Nat
 | .store _ x _ => match ev od [] x with
  | some (.ptr i _) => some i
  | _ => none
 | _ => none
def stepOp (T : List TyD) (nt : Nat) (o : Oper) (rest all : List Oper) (lr : List REnt) (k : List Kt) (L : Fr) (M : List OB) : Option St :=
 match guardC all lr o.guard with
 | none => none
 | some [] => match valOf T (opd L lr) M [] o.op with
  | some (v, r) => match o.dst with
   | some d => match Nat.blt d nt, freshR d lr with
    | true, true => match r with
     | some r => some ⟨.ops rest all (⟨d, [], v, r⟩ :: lr) :: k, (d, v) :: L, M⟩
     | none => some ⟨.ops rest all (⟨d, [], v, d⟩ :: lr) :: k, (d, v) :: L, M⟩
    | _, _ => none
   | none => none
  | none => match memOf T (opd L lr) M o.op with
   | some (some v, M') => match o.dst with
    | some d => match Nat.blt d nt, freshR d lr with
     | true, true => some ⟨.ops rest all (⟨d, [], v, d⟩ :: lr) :: k, (d, v) :: L, M'⟩
     | _, _ => none
    | none => none
   | some (none, M') => match o.dst, stAt (opd L lr) o.op with
    | none, some i => match wrOk i k with
     | true => some ⟨.ops rest all lr :: k, L, M'⟩
     | false => none
    | _, _ => none
   | none => none
 | some G => match valOf T (opd L lr) M G o.op with
  | some (v, r) => match o.dst with
   | some d => match Nat.blt d nt, freshR d lr, lookL L d with
    | true, true, none => match r with
     | some r => some ⟨.ops rest all (⟨d, G, v, r⟩ :: lr) :: k, L, M⟩
     | none => some ⟨.ops rest all (⟨d, G, v, d⟩ :: lr) :: k, L, M⟩
    | _, _, _ => none
   | none => none
  | none => none
def noOps : List Kt → Bool
 | .ops _ _ _ :: _ => false
 | .draw _ :: _ => false
 | _ => true
def toK (k : List Kt) (L : Fr) (M : List OB) : Option St :=
 match noOps k with
 | true => some ⟨k, L, M⟩
 | false => none

/-! ### Regions whose order is drawn -/
def lenL {α : Type} : List α → Nat
 | [] => 0
 | _ :: l => lenL l + 1
def fals : List Oper → List Bool
 | [] => []
 | _ :: l => false :: fals l
def isEnd : Op → Bool
 | .store _ _ _ => true
 | .mapUpdate _ _ _ _ => true
 | .entryStore _ _ _ _ => true
 | .insert _ _ _ _ => true
 | .call ⟨.builtin .append, _, _⟩ => true
 | .call ⟨.builtin .copy, _, _⟩ => true
 | _ => false
def barB (es : List Edge) : Nat → Bool
 | 0 => true
 | n + 1 => match waitsOn n es with
  | true => barB es n
  | false => false
def chase (L : Fr) (all : List Oper) : Nat → Operand → Option Nat
 | 0, _ => none
 | n + 1, .tmp s => match lookL L s with
  | some (.ptr i _) => some i
  | _ => match all.find? (fun o => sameD s o.dst) with
   | some o => match o.op with
    | .fieldAddr _ x _ => chase L all n x
    | .move x => chase L all n x
    | _ => none
   | none => none
 | _, _ => none
def endsOf (L : Fr) (all : List Oper) : Nat → List Oper → List Nat × List Nat
 | _, [] => ([], [])
 | i, o :: r => match endsOf L all (i + 1) r with
  | (es, ms) => match isEnd o.op with
   | true => match barB o.after.toList i with
    | true => (i :: es, ms)
    | false => match o.op with
     | .store _ x _ => match chase L all 5 x with
      | some b => (es, b :: ms)
      | none => (i :: es, ms)
     | _ => (i :: es, ms)
   | false => (es, ms)
def floatP (T : List TyD) (nt : Nat) (all : List Oper) (listed : List Bool) (ends : List Nat) (n0 : Nat) (mask : List Nat) (V : View) (lr : List REnt) (n i : Nat) (p : List (Nat × Bool)) (k : List Kt) (L : Fr) (M : List OB) : Option St :=
 match nth all i with
 | some o => match guardC all lr o.guard with
  | some [] => match valOf T (opd L lr) (rdM mask 0 n0 M) [] o.op with
   | some (v, r) => match o.dst with
    | some d => match Nat.blt d nt, freshR d lr with
     | true, true => match r with
      | some r => some ⟨.draw ⟨all, setT listed i, n, ends, n0, mask, V, p, ⟨d, [], v, r⟩ :: lr⟩ :: k, (d, v) :: L, M⟩
      | none => some ⟨.draw ⟨all, setT listed i, n, ends, n0, mask, V, p, ⟨d, [], v, d⟩ :: lr⟩ :: k, (d, v) :: L, M⟩
     | _, _ => none
    | none => none
   | none => none
  | some G => match valOf T (opd L lr) (rdM mask 0 n0 M) G o.op with
   | some (v, r) => match o.dst with
    | some d => match Nat.blt d nt, freshR d lr, lookL L d with
     | true, true, none => match r with
      | some r => some ⟨.draw ⟨all, setT listed i, n, ends, n0, mask, V, p, ⟨d, G, v, r⟩ :: lr⟩ :: k, L, M⟩
      | none => some ⟨.draw ⟨all, setT listed i, n, ends, n0, mask, V, p, ⟨d, G, v, d⟩ :: lr⟩ :: k, L, M⟩
     | _, _, _ => none
    | none => none
   | none => none
  | none => none
 | none => none
def stepD (T : List TyD) (nt : Nat) (all : List Oper) (listed : List Bool) (n : Nat) (ends : List Nat) (n0 : Nat) (mask : List Nat) (V : View) (plan : List (Nat × Bool)) (lr : List REnt) (k : List Kt) (L : Fr) (M : List OB) : Option St :=
 match plan with
 | [] => match sameL all listed, rdy listed 0 all with
  | true, [] => toK k L M
  | _, _ => none
 | (i, true) :: p => match n with
  | n + 1 => floatP T nt all listed ends n0 mask V lr n i p k L M
  | 0 => none
 | (i, false) :: p => match n, nth all i with
  | n + 1, some o => some ⟨.ops [o] all lr :: .draw ⟨all, setT listed i, n, ends, n0, mask, V, p, lr⟩ :: k, L, M⟩
  | _, _ => none
def step (T : List TyD) (nt : Nat) (V : View) : St → Option St
 | ⟨.code .skip :: k, L, M⟩ => toK k L M
 | ⟨.code (.label _) :: k, L, M⟩ => toK k L M
 | ⟨.code (.seq a b) :: k, L, M⟩ => some ⟨.code a :: .code b :: k, L, M⟩
 | ⟨.code (.block id c) :: k, L, M⟩ => some ⟨.code c :: .inBlock id :: k, L, M⟩
 | ⟨.code (.exit id) :: k, L, M⟩ => match exitK id k with
  | some k' => toK k' L M
  | none => none
 | ⟨.code (.region _ ⟨ops⟩ false) :: k, L, M⟩ => match noOps k with
  | true => some ⟨.ops ops ops [] :: k, L, M⟩
  | false => none
 | ⟨.inBlock _ :: k, L, M⟩ => toK k L M
 | ⟨.ops [] _ lr :: .draw ⟨all, listed, n, ends, n0, mask, V, plan, _⟩ :: k, L, M⟩ => some ⟨.draw ⟨all, listed, n, ends, n0, mask, V, plan, lr⟩ :: k, L, M⟩
 | ⟨.draw ⟨all, listed, n, ends, n0, mask, V, plan, lr⟩ :: k, L, M⟩ => stepD T nt all listed n ends n0 mask V plan lr k L M
 | ⟨.ops [] _ _ :: k, L, M⟩ => toK k L M
 | ⟨.ops (o :: rest) all lr :: k, L, M⟩ => stepOp T nt o rest all lr k L M
 | _ => none
def run (T : List TyD) (nt : Nat) (V : View) : Nat → St → St
 | 0, s => s
 | n + 1, s => match step T nt V s with
  | some s' => run T nt V n s'
  | none => s
end Go.Proofs.YtglnnhmmipopiaaGreat

set_option linter.all false
namespace Go.Proofs.YtglnnhmmipopiaaGreat
theorem alive_lt {M : List OB} {i : Nat} (h : alive M i) : i < M.length := by
 obtain ⟨o, h1, _⟩ := h
 exact (List.getElem?_eq_some_iff.1 h1).1
theorem alive_snoc {M : List OB} {i : Nat} (b : OB) (h : alive M i) : alive (M ++ [b]) i := by
 obtain ⟨o, h1, h2⟩ := h
 exact ⟨o, by rw [List.getElem?_append, if_pos (List.getElem?_eq_some_iff.1 h1).1]; exact h1, h2⟩
theorem alive_set {M : List OB} {i j : Nat} {b : OB} (hb : b ≠ .gone) (h : alive M i) : alive (M.set j b) i := by
 have hi := alive_lt h
 obtain ⟨o, h1, h2⟩ := h
 rw [alive]
 by_cases hij : j = i
 ·subst hij; exact ⟨b, by simp [hi], hb⟩
 ·exact ⟨o, by rw [List.getElem?_set, if_neg hij]; exact h1, h2⟩
theorem SV.ok_mono {M M' : List OB} (h : ∀ i, alive M i → alive M' i) : ∀ {x : SV}, x.ok M → x.ok M'
 | .v _, _ => trivial
 | .ptr _ _, k => h _ k
 | .slc _ _ _ _, k => h _ k
 | .el _ _, k => k
theorem envAt_append {env : List Nat} {b i : Nat} (h : i < env.length) : envAt (env ++ [b]) i = envAt env i := by
 simp [envAt, List.getElem?_append, h]
theorem envAt_new (env : List Nat) (b : Nat) : envAt (env ++ [b]) env.length = b := by simp [envAt]
theorem den_append {env : List Nat} {M : List OB} {b : Nat} (hl : env.length = M.length) : ∀ {x : SV}, x.ok M → den (env ++ [b]) x = den env x
 | .v _, _ => rfl
 | .ptr _ _, h => by simp only [den, envAt_append (hl ▸ alive_lt h)]
 | .slc _ _ _ _, h => by simp only [den, envAt_append (hl ▸ alive_lt h)]
 | .el _ _, _ => rfl
theorem beq_nat {a b : Nat} (h : Nat.beq a b = true) : a = b := Nat.eq_of_beq_eq_true h
theorem beq_nat_false {a b : Nat} (h : Nat.beq a b = false) : a ≠ b := Nat.ne_of_beq_eq_false h
theorem beqB_eq : ∀ {a b : Bool}, beqB a b = true → a = b := by intro a b h; cases a <;> cases b <;> first | rfl | simp [beqB] at h
theorem lookL_cons (d : Nat) (x : SV) (L : Fr) (s : Nat) : lookL ((d, x) :: L) s = if d = s then some x else lookL L s := by
 simp only [lookL]
 split
 ·rename_i h; rw [if_pos (beq_nat h)]
 ·rename_i h; rw [if_neg (beq_nat_false h)]
theorem lookR_cons (e : REnt) (l : List REnt) (s : Nat) : lookR (e :: l) s = if e.s = s then some e else lookR l s := by
 simp only [lookR]
 split
 ·rename_i h; rw [if_pos (beq_nat h)]
 ·rename_i h; rw [if_neg (beq_nat_false h)]
theorem memC_sound (t : Array Value) (a : Nat × Bool) : ∀ G, memC a G = true → condT t G → t[a.1]? = some (.bool a.2)
 | [], h, _ => by simp [memC] at h
 | b :: l, h, hc => by
  simp only [memC] at h
  split at h
  ·rename_i h1
   split at h
   ·rename_i h2
    rw [beq_nat h1, beqB_eq h2]
    exact hc.1
   ·exact memC_sound t a l h hc.2
  ·exact memC_sound t a l h hc.2
theorem subC_sound (t : Array Value) (G : List (Nat × Bool)) : ∀ c, subC c G = true → condT t G → condT t c
 | [], _, _ => trivial
 | a :: l, h, hc => by
  simp only [subC] at h
  split at h
  ·rename_i h1
   exact ⟨memC_sound t a G h1 hc, subC_sound t G l h hc⟩
  ·simp at h
theorem put_same {t : Array Value} {d : Nat} (h : d < t.size) (u : Value) : (t.setIfInBounds d u)[d]? = some u := by
 simp [h]
theorem put_other {t : Array Value} {d s : Nat} (h : s ≠ d) (u : Value) : (t.setIfInBounds d u)[s]? = t[s]? := by
 simp [h.symm]
theorem condT_put {t : Array Value} {d : Nat} (u : Value) : ∀ {c : List (Nat × Bool)}, freshC d c = true → (condT (t.setIfInBounds d u) c ↔ condT t c)
 | [], _ => Iff.rfl
 | a :: l, h => by
  simp only [freshC] at h
  split at h
  ·simp at h
  ·rename_i h1
   simp only [condT, put_other (beq_nat_false h1) u, condT_put u h]
theorem freshR_look {d : Nat} : ∀ {lr : List REnt}, freshR d lr = true → ∀ {s e}, lookR lr s = some e → s ≠ d ∧ e.r ≠ d ∧ freshC d e.c = true
 | [], _, s, e, h => by simp [lookR] at h
 | a :: l, hf, s, e, h => by
  simp only [freshR] at hf
  split at hf
  ·simp at hf
  ·rename_i h1
   split at hf
   ·simp at hf
   ·rename_i h2
    split at hf
    ·rename_i h3
     rw [lookR_cons] at h
     split at h
     ·rename_i h4
      simp only [Option.some.injEq] at h
      subst h
      exact ⟨by rw [← h4]; exact beq_nat_false h1, beq_nat_false h2, h3⟩
     ·exact freshR_look hf h
    ·simp at hf
theorem LOk.put {env : List Nat} {M : List OB} {L : Fr} {t : Array Value} (h : LOk env M L t) {d : Nat} (hd : d < t.size) {x : SV} (hx : x.ok M) :
  LOk env M ((d, x) :: L) (t.setIfInBounds d (den env x)) := by
 intro s y hy
 rw [lookL_cons] at hy
 split at hy
 ·rename_i h1
  simp only [Option.some.injEq] at hy
  subst hy; subst h1
  exact ⟨put_same hd _, hx⟩
 ·rename_i h1
  rw [put_other (fun e => h1 e.symm)]
  exact h s y hy
theorem LOk.put_new {env : List Nat} {M : List OB} {L : Fr} {t : Array Value} (h : LOk env M L t) {d : Nat} (hd : lookL L d = none) (u : Value) :
  LOk env M L (t.setIfInBounds d u) := by
 intro s y hy
 have : s ≠ d := by intro e; subst e; rw [hd] at hy; simp at hy
 rw [put_other this]
 exact h s y hy
theorem ROk.put {env : List Nat} {M : List OB} {lr : List REnt} {t : Array Value} (h : ROk env M lr t) {d : Nat} (hd : d < t.size) (hf : freshR d lr = true) {G : List (Nat × Bool)} {x : SV} {r : Nat} {u : Value}
  (h1 : condT t G → u = den env x) (h2 : ¬ condT t G → u = undef) (hG : freshC d G = true) (hr : r = d ∨ (r ≠ d ∧ t[r]? = some u)) (hx : condT t G → x.ok M) :
  ROk env M (⟨d, G, x, r⟩ :: lr) (t.setIfInBounds d u) := by
 intro s e he
 rw [lookR_cons] at he
 split at he
 ·rename_i h3
  simp only [Option.some.injEq] at he
  subst he
  simp only at h3
  subst h3
  refine ⟨fun hc => ⟨?_, hx ((condT_put u hG).1 hc)⟩, fun hc => ?_, ?_⟩
  ·rw [put_same hd, h1 ((condT_put u hG).1 hc)]
  ·rw [put_same hd, h2 (fun k => hc ((condT_put u hG).2 k))]
  ·rcases hr with hr | ⟨hr, hv⟩
   ·subst hr; rfl
   ·simp only [put_other hr, put_same hd, hv]
 ·obtain ⟨k1, k2, k3⟩ := freshR_look hf he
  obtain ⟨m1, m2, m3⟩ := h s e he
  rw [put_other k1, put_other k2, condT_put u k3]
  exact ⟨m1, m2, m3⟩
theorem LOk.mono {env : List Nat} {M : List OB} {L : Fr} {t : Array Value} (hl : env.length = M.length) (h : LOk env M L t) (b : Nat) (o : OB) : LOk (env ++ [b]) (M ++ [o]) L t := by
 intro s y hy
 obtain ⟨h1, h2⟩ := h s y hy
 exact ⟨by rw [den_append hl h2]; exact h1, SV.ok_mono (fun _ => alive_snoc o) h2⟩
theorem ROk.mono {env : List Nat} {M : List OB} {lr : List REnt} {t : Array Value} (hl : env.length = M.length) (h : ROk env M lr t) (b : Nat) (o : OB) : ROk (env ++ [b]) (M ++ [o]) lr t := by
 intro s e he
 obtain ⟨h1, h2, h3⟩ := h s e he
 exact ⟨fun hc => ⟨by rw [den_append hl (h1 hc).2]; exact (h1 hc).1, SV.ok_mono (fun _ => alive_snoc o) (h1 hc).2⟩, h2, h3⟩
theorem LOk.set {env : List Nat} {M : List OB} {L : Fr} {t : Array Value} (h : LOk env M L t) {i : Nat} {o : OB} (ho : o ≠ .gone) : LOk env (M.set i o) L t := fun s y hy =>
 ⟨(h s y hy).1, SV.ok_mono (fun _ => alive_set ho) (h s y hy).2⟩
theorem ROk.set {env : List Nat} {M : List OB} {lr : List REnt} {t : Array Value} (h : ROk env M lr t) {i : Nat} {o : OB} (ho : o ≠ .gone) : ROk env (M.set i o) lr t := fun s e he =>
 ⟨fun hc => ⟨((h s e he).1 hc).1, SV.ok_mono (fun _ => alive_set ho) ((h s e he).1 hc).2⟩, (h s e he).2⟩

/-! ### Operands -/
def Tells (env : List Nat) (M : List OB) (t : Array Value) (od : Look) : Prop :=
 ∀ x c v r, od x = some (c, v, r) → (condT t c → (⟨t, []⟩ : Act).eval x = den env v) ∧ (condT t c → v.ok M) ∧
  ∀ r0, r = some r0 → (condT t c → t[r0]? = some (den env v)) ∧ (¬ condT t c → t[r0]? = some undef)
theorem opd_sound {env : List Nat} {M : List OB} {L : Fr} {lr : List REnt} {t : Array Value} (hL : LOk env M L t) (hR : ROk env M lr t) : Tells env M t (opd L lr) := by
 intro x c v r h
 cases x with
 | const y => simp only [opd, Option.some.injEq, Prod.mk.injEq] at h; obtain ⟨rfl, rfl, rfl⟩ := h; exact ⟨fun _ => rfl, fun _ => trivial, fun _ h => by simp at h⟩
 | func f => simp only [opd, Option.some.injEq, Prod.mk.injEq] at h; obtain ⟨rfl, rfl, rfl⟩ := h; exact ⟨fun _ => rfl, fun _ => trivial, fun _ h => by simp at h⟩
 | global g => simp only [opd, Option.some.injEq, Prod.mk.injEq] at h; obtain ⟨rfl, rfl, rfl⟩ := h; exact ⟨fun _ => rfl, fun _ => trivial, fun _ h => by simp at h⟩
 | tmp s =>
  simp only [opd] at h
  split at h
  ·rename_i e1 c1 x1 r1 he
   simp only [Option.some.injEq, Prod.mk.injEq] at h
   obtain ⟨rfl, rfl, rfl⟩ := h
   obtain ⟨h1, h2, h3⟩ := hR s _ he
   refine ⟨fun hc => ?_, fun hc => (h1 hc).2, fun r0 hr => ?_⟩
   ·have := (h1 hc).1
    simp [Act.eval, this]
   ·simp only [Option.some.injEq] at hr; subst hr
    simp only at h3
    rw [h3]
    exact ⟨fun hc => (h1 hc).1, h2⟩
  ·split at h
   ·rename_i y hy
    simp only [Option.some.injEq, Prod.mk.injEq] at h
    obtain ⟨rfl, rfl, rfl⟩ := h
    obtain ⟨h1, h2⟩ := hL s _ hy
    exact ⟨fun _ => by simp [Act.eval, h1], fun _ => h2, fun _ h => by simp at h⟩
   ·simp at h
theorem opd_root {L : Fr} {lr : List REnt} {x : Operand} {c : List (Nat × Bool)} {v : SV} {r0 : Nat} (h : opd L lr x = some (c, v, some r0)) : ∃ s e, lookR lr s = some e ∧ e.r = r0 := by
 cases x with
 | const y => simp [opd] at h
 | func f => simp [opd] at h
 | global g => simp [opd] at h
 | tmp s =>
  simp only [opd] at h
  split at h
  ·rename_i e1 c1 x1 r1 he
   simp only [Option.some.injEq, Prod.mk.injEq] at h
   obtain ⟨rfl, rfl, rfl⟩ := h
   exact ⟨s, _, he, rfl⟩
  ·split at h <;> simp at h
theorem ev_sound {env : List Nat} {M : List OB} {t : Array Value} {od : Look} (ho : Tells env M t od) {G : List (Nat × Bool)} (hG : condT t G) {x : Operand} {v : SV}
  (h : ev od G x = some v) : (⟨t, []⟩ : Act).eval x = den env v := by
 unfold ev at h
 split at h
 ·rename_i c v' r hx
  split at h
  ·rename_i hs
   simp only [Option.some.injEq] at h; subst h
   exact (ho _ _ _ _ hx).1 (subC_sound t G c hs hG)
  ·simp at h
 ·simp at h
theorem ev_ok {env : List Nat} {M : List OB} {t : Array Value} {od : Look} (ho : Tells env M t od) {G : List (Nat × Bool)} (hG : condT t G) {x : Operand} {v : SV}
  (h : ev od G x = some v) : v.ok M := by
 unfold ev at h
 split at h
 ·rename_i c v' r hx
  split at h
  ·rename_i hs
   simp only [Option.some.injEq] at h; subst h
   exact (ho _ _ _ _ hx).2.1 (subC_sound t G c hs hG)
  ·simp at h
 ·simp at h
theorem guard_sound {env : List Nat} {M : List OB} {all : List Oper} {lr : List REnt} {t : Array Value} (hR : ROk env M lr t) {o : Oper} {G : List (Nat × Bool)} (h : guardC all lr o.guard = some G) :
  Region.wanted o (yielded ⟨all⟩ t) = true ↔ condT t G := by
 unfold Region.wanted
 cases hg : o.guard with
 | none => rw [hg] at h; simp only [guardC, Option.some.injEq] at h; subst h; simp [condT]
 | some jw =>
  obtain ⟨j, want⟩ := jw
  rw [hg] at h
  simp only [guardC] at h
  split at h
  ·rename_i oj hj
   split at h
   ·rename_i s hs
    split at h
    ·rename_i e1 c1 x1 r1 he
     simp only [Option.some.injEq] at h
     subst h
     obtain ⟨h1, h2, h3⟩ := hR s _ he
     simp only at h1 h2 h3
     rw [nth_eq] at hj
     have hy : yielded ⟨all⟩ t j = match t[s]? with | some (.bool b) => some b | _ => none := by
      unfold yielded
      have : (⟨all⟩ : Array Oper)[j]? = some oj := by simpa using hj
      rw [this]
      simp only [Option.bind_some, hs]
      rfl
     simp only [hy, condT, h3]
     constructor
     ·intro hw
      have hb : t[s]? = some (.bool want) := by
       split at hw
       ·rename_i b hb; simp at hw; rw [hb, hw]
       ·simp at hw
      refine ⟨hb, ?_⟩
      refine Classical.byContradiction fun hc => ?_
      rw [h2 hc] at hb
      simp [undef] at hb
     ·rintro ⟨hb, _⟩
      simp [hb]
    ·simp at h
   ·simp at h
  ·simp at h
theorem guard_fresh {all : List Oper} {lr : List REnt} {g : Option (Nat × Bool)} {G : List (Nat × Bool)} {d : Nat} (h : guardC all lr g = some G) (hf : freshR d lr = true) : freshC d G = true := by
 cases g with
 | none => simp only [guardC, Option.some.injEq] at h; subst h; rfl
 | some jw =>
  obtain ⟨j, want⟩ := jw
  simp only [guardC] at h
  split at h
  ·split at h
   ·split at h
    ·rename_i e1 c1 x1 r1 he
     simp only [Option.some.injEq] at h
     subst h
     obtain ⟨k1, k2, k3⟩ := freshR_look hf he
     simp only at k2 k3
     simp only [freshC]
     split
     ·rename_i hb; exact absurd (beq_nat hb) k2
     ·exact k3
    ·simp at h
   ·simp at h
  ·simp at h

/-! ### Lists of values -/
theorem vals_sound {env : List Nat} : ∀ {l : List SV} {r : List Value}, vals l = some r → l.map (den env) = r
 | [], r, h => by simp only [vals, Option.some.injEq] at h; subst h; rfl
 | .v x :: l, r, h => by
  simp only [vals] at h
  split at h
  ·rename_i r' hr
   simp only [Option.some.injEq] at h; subst h
   simp [den, vals_sound hr]
  ·simp at h
 | .ptr _ _ :: l, r, h => by simp [vals] at h
 | .slc _ _ _ _ :: l, r, h => by simp [vals] at h
 | .el _ _ :: l, r, h => by simp [vals] at h
theorem liftV_sound {env : List Nat} {M : List OB} : ∀ {l : List Value} {r : List SV}, liftV l = some r → r.map (den env) = l ∧ ∀ x ∈ r, x.ok M
 | [], r, h => by simp only [liftV, Option.some.injEq] at h; subst h; simp
 | a :: l, r, h => by
  simp only [liftV] at h
  split at h
  ·rename_i r' hr
   simp only [Option.some.injEq] at h; subst h
   obtain ⟨h1, h2⟩ := liftV_sound (env := env) (M := M) hr
   refine ⟨by simp [den, h1], ?_⟩
   intro x hx
   simp only [List.mem_cons] at hx
   rcases hx with rfl | hx
   ·exact trivial
   ·exact h2 x hx
  ·simp at h
theorem cellsV_sound {env : List Nat} {M : List OB} {x : SV} {r : List SV} (hx : x.ok M) (h : cellsV x = some r) : (den env x).cells = ⟨r.map (den env)⟩ ∧ ∀ y ∈ r, y.ok M := by
 unfold cellsV at h
 split at h
 ·rename_i cs
  obtain ⟨h1, h2⟩ := liftV_sound (env := env) (M := M) h
  exact ⟨by simp [den, Value.cells, h1], h2⟩
 ·rename_i y hy
  simp only [Option.some.injEq] at h; subst h
  refine ⟨?_, by simp [SV.ok]⟩
  cases y <;> simp [den, Value.cells]
  rename_i cs
  exact absurd rfl (hy cs.toList)
 ·simp only [Option.some.injEq] at h; subst h
  refine ⟨?_, by simpa using hx⟩
  cases x with
  | v y => rename_i h1 h2; exact absurd rfl (h2 y)
  | ptr i o => simp [den, Value.cells]
  | slc i o l c => simp [den, Value.cells]
  | el a o => simp [den, Value.cells]
theorem one_sound {env : List Nat} : ∀ {x : SV}, one x = true → (den env x).oneCell' = true := by
 intro x h
 cases x with
 | v y => cases y <;> first | rfl | simp [one] at h
 | ptr i o => rfl
 | slc i o l c => rfl
 | el a o => rfl
theorem allOne_sound {env : List Nat} : ∀ {l : List SV}, allOne l = true → ∀ v ∈ l.map (den env), v.oneCell' = true
 | [], _, v, hv => by simp at hv
 | x :: l, h, v, hv => by
  simp only [allOne] at h
  split at h
  ·rename_i h1
   simp only [List.map_cons, List.mem_cons] at hv
   rcases hv with rfl | hv
   ·exact one_sound h1
   ·exact allOne_sound h v hv
  ·simp at h
theorem putN_sound {α : Type} : ∀ {l : List α} {o : Nat} {vs r : List α}, putN l o vs = some r → o + vs.length ≤ l.length ∧ r = l.take o ++ vs ++ l.drop (o + vs.length)
 | l, 0, [], r, h => by simp only [putN, Option.some.injEq] at h; subst h; simp
 | [], o + 1, vs, r, h => by simp [putN] at h
 | [], 0, v :: vs, r, h => by simp [putN] at h
 | a :: l, 0, v :: vs, r, h => by
  simp only [putN] at h
  split at h
  ·rename_i r' hr
   simp only [Option.some.injEq] at h; subst h
   obtain ⟨h1, h2⟩ := putN_sound hr
   simp at h1 h2 ⊢
   exact ⟨by omega, by rw [h2]⟩
  ·simp at h
 | a :: l, o + 1, vs, r, h => by
  simp only [putN] at h
  split at h
  ·rename_i r' hr
   simp only [Option.some.injEq] at h; subst h
   obtain ⟨h1, h2⟩ := putN_sound hr
   simp at h1 h2 ⊢
   refine ⟨by omega, ?_⟩
   rw [h2, show o + 1 + vs.length = (o + vs.length) + 1 by omega, List.drop_succ_cons]
  ·simp at h
theorem setN_sound {α : Type} : ∀ {l : List α} {i : Nat} {x : α} {r : List α}, setN l i x = some r → i < l.length ∧ r = l.set i x
 | [], i, x, r, h => by simp [setN] at h
 | a :: l, 0, x, r, h => by simp only [setN, Option.some.injEq] at h; subst h; simp
 | a :: l, i + 1, x, r, h => by
  simp only [setN] at h
  split at h
  ·rename_i r' hr
   simp only [Option.some.injEq] at h; subst h
   obtain ⟨h1, h2⟩ := setN_sound hr
   exact ⟨by simpa using h1, by simp [h2]⟩
  ·simp at h
theorem snocN_sound {α : Type} : ∀ {l : List α} {x : α} {i : Nat} {r : List α} {n : Nat}, snocN l x i = some (r, n) → r = l ++ [x] ∧ n = i + l.length
 | [], x, i, r, n, h => by simp only [snocN, Option.some.injEq, Prod.mk.injEq] at h; obtain ⟨rfl, rfl⟩ := h; simp
 | a :: l, x, i, r, n, h => by
  simp only [snocN] at h
  split at h
  ·rename_i r' n' hr
   simp only [Option.some.injEq, Prod.mk.injEq] at h
   obtain ⟨rfl, rfl⟩ := h
   obtain ⟨h1, h2⟩ := snocN_sound hr
   exact ⟨by simp [h1], by simp; omega⟩
  ·simp at h
end Go.Proofs.YtglnnhmmipopiaaGreat

set_option linter.all false
namespace Go.Proofs.YtglnnhmmipopiaaGreat

/-! ### Worlds -/
theorem OB.own_lt {env : List Nat} {M : List OB} {w : World} {b : Nat} : ∀ {o : OB}, o.sat env M w b → ∀ {a}, o.own b a → a.block < w.heap.size
 | .gone, _, _, h => h.elim
 | .blk cs ty, h, a, ha => by
  have : a.block = b := ha
  rw [this]
  exact (Array.getElem?_eq_some_iff.1 h.1).1
 | .row x cs e sz, h, a, ha => by
  obtain ⟨n, h⟩ := h
  exact (h.lt _ ha).2
theorem rowSat_of {w w' : World} {e sz : Nat} {x : Value} {cs : List Value} (h : rowSat w e sz x cs) (hk : ∀ g, x.ownBlock = some g → w'.heap[g]? = w.heap[g]?) : rowSat w' e sz x cs := by
 obtain ⟨n, h1, h2⟩ := h
 refine ⟨n, h1, ?_⟩
 rcases h2 with h2 | ⟨g, cap, cur, rfl, k1, k2, k3⟩
 ·exact .inl h2
 ·exact .inr ⟨g, cap, cur, rfl, k1, by rw [hk g rfl]; exact k2, k3⟩
theorem WOk.alloc {V0 V : View} {FR : Frm} {env : List Nat} {M : List OB} {w : World} (h : WOk V0 FR env V M w) {cs : List SV} (hcs : ∀ x ∈ cs, x.ok M) (ty : Nat) :
  WOk V0 FR (env ++ [w.heap.size]) V (M ++ [.blk cs ty]) (w.alloc (.cells ⟨cs.map (den env)⟩ ty)) := by
 have hb : ∀ a x, V a = some x → a.block < w.heap.size := fun a x hx => World.block_lt_of_cell? w a (h.holds a x hx)
 have hf : ∀ b o, FR.blk b = some o → b < w.heap.size := fun b o ho => (Array.getElem?_eq_some_iff.1 (h.frame b o ho)).1
 have hcell : ∀ a x, w.cell? a = some x → (w.alloc (.cells ⟨cs.map (den env)⟩ ty)).cell? a = some x := fun a x hx => by
  rw [World.cell?_alloc_lt w _ a (World.block_lt_of_cell? w a hx)]; exact hx
 have hheap : ∀ k, k < w.heap.size → (w.alloc (.cells ⟨cs.map (den env)⟩ ty)).heap[k]? = w.heap[k]? := fun k hk => Go.RowKit.Below.heap_alloc w _ k hk
 have hold : ∀ (i : Nat) (o : OB), M[i]? = some o → envAt (env ++ [w.heap.size]) i = envAt env i := fun i o ho => envAt_append (by rw [h.len]; exact (List.getElem?_eq_some_iff.1 ho).1)
 have hget : ∀ (i : Nat) (o : OB), (M ++ [OB.blk cs ty])[i]? = some o → M[i]? = some o ∨ (i = M.length ∧ o = .blk cs ty) := by
  intro i o ho
  rw [List.getElem?_append] at ho
  split at ho
  ·exact .inl ho
  ·rename_i hi
   right
   have : i - M.length = 0 := by
    refine Classical.byContradiction fun hc => ?_
    obtain ⟨k, hk⟩ : ∃ k, i - M.length = k + 1 := ⟨i - M.length - 1, by omega⟩
    rw [hk] at ho
    simp at ho
   rw [this] at ho
   simp at ho
   exact ⟨by omega, ho.symm⟩
 refine ⟨h.os, h.tape, h.output, fun b o ho => by rw [hheap b (hf b o ho)]; exact h.frame b o ho, h.le, fun a x hx => hcell a x (h.holds a x hx), h.fresh, by simp [h.len], ?_, ?_, ?_, ?_⟩
 ·intro i o ho
  rcases hget i o ho with ho | ⟨hi, he⟩
  ·rw [hold i o ho]
   have hs := h.sat i o ho
   cases o with
   | gone => trivial
   | blk cs' ty' =>
    obtain ⟨k1, k2⟩ := hs
    refine ⟨?_, fun x hx => SV.ok_mono (fun _ => alive_snoc _) (k2 x hx)⟩
    rw [hheap _ (Array.getElem?_eq_some_iff.1 k1).1, k1]
    congr 3
    exact List.map_congr_left fun x hx => (den_append h.len (k2 x hx)).symm
   | row x cs e sz =>
    exact rowSat_of hs fun g hg => hheap _ (OB.own_lt (env := env) (M := M) (b := 0) (o := .row x cs e sz) hs (a := ⟨g, 0, none⟩) hg)
  ·subst he; subst hi
   rw [show M.length = env.length from h.len.symm, envAt_new]
   refine ⟨?_, fun x hx => SV.ok_mono (fun _ => alive_snoc _) (hcs x hx)⟩
   rw [heap_alloc_new]
   congr 3
   exact List.map_congr_left fun x hx => (den_append h.len (hcs x hx)).symm
 ·intro i o a ho ha
  rcases hget i o ho with ho | ⟨hi, he⟩
  ·rw [hold i o ho] at ha
   exact h.apartV i o a ho ha
  ·subst he; subst hi
   rw [show M.length = env.length from h.len.symm, envAt_new] at ha
   have ha : a.block = w.heap.size := ha
   cases hv : V a with
   | none => rfl
   | some x => have := hb a x hv; omega
 ·intro i o a ho ha
  rcases hget i o ho with ho | ⟨hi, he⟩
  ·rw [hold i o ho] at ha
   exact h.apartF i o a ho ha
  ·subst he; subst hi
   rw [show M.length = env.length from h.len.symm, envAt_new] at ha
   have ha : a.block = w.heap.size := ha
   cases hv : FR.blk a.block with
   | none => rfl
   | some x => have := hf _ x hv; omega
 ·intro i j o o' a hij ho ho' ha ha'
  rcases hget i o ho with ho | ⟨hi, he⟩
  ·rcases hget j o' ho' with ho' | ⟨hj, he'⟩
   ·rw [hold i o ho] at ha
    rw [hold j o' ho'] at ha'
    exact h.apart i j o o' a hij ho ho' ha ha'
   ·subst he'; subst hj
    rw [hold i o ho] at ha
    rw [show M.length = env.length from h.len.symm, envAt_new] at ha'
    have ha' : a.block = w.heap.size := ha'
    have := OB.own_lt (h.sat i o ho) ha
    omega
  ·subst he; subst hi
   rw [show M.length = env.length from h.len.symm, envAt_new] at ha
   have ha : a.block = w.heap.size := ha
   rcases hget j o' ho' with ho' | ⟨hj, he'⟩
   ·rw [hold j o' ho'] at ha'
    have := OB.own_lt (h.sat j o' ho') ha'
    omega
   ·exact hij hj.symm
theorem WOk.store {V0 V : View} {FR : Frm} {env : List Nat} {M : List OB} {w : World} (h : WOk V0 FR env V M w) {i : Nat} {cs cs' : List SV} {ty : Nat} (hi : M[i]? = some (.blk cs ty))
  (hcs : ∀ x ∈ cs', x.ok M) (hl : cs'.length = cs.length) :
  WOk V0 FR env V (M.set i (.blk cs' ty)) (w.setRow (envAt env i) ⟨cs'.map (den env)⟩) := by
 have hs := h.sat i _ hi
 have hil : i < M.length := (List.getElem?_eq_some_iff.1 hi).1
 have hother : ∀ k, k ≠ envAt env i → (w.setRow (envAt env i) ⟨cs'.map (den env)⟩).heap[k]? = w.heap[k]? := fun k hk => setRow_other w _ k _ hk
 have hown : ∀ a : Addr, a.block = envAt env i → V a = none ∧ FR.blk a.block = none := fun a ha => ⟨h.apartV i _ a hi ha, h.apartF i _ a hi ha⟩
 have hblk : ∀ (j : Nat) (o : OB), j ≠ i → M[j]? = some o → ∀ a : Addr, o.own (envAt env j) a → a.block ≠ envAt env i := fun j o hj ho a ha hb => h.apart j i o _ a hj ho hi ha hb
 have hget : ∀ (j : Nat) (o : OB), (M.set i (.blk cs' ty))[j]? = some o → (j ≠ i ∧ M[j]? = some o) ∨ (j = i ∧ o = .blk cs' ty) := by
  intro j o ho
  rw [List.getElem?_set] at ho
  split at ho
  ·rename_i hj
   subst hj
   simp only [Option.some.injEq] at ho
   exact .inr ⟨rfl, ho.symm⟩
  ·rename_i hj
   exact .inl ⟨fun e => hj e.symm, ho⟩
 have hgown : ∀ (j : Nat) (o : OB), (M.set i (.blk cs' ty))[j]? = some o → ∃ o0, M[j]? = some o0 ∧ ∀ a, o.own (envAt env j) a → o0.own (envAt env j) a := by
  intro j o ho
  rcases hget j o ho with ⟨_, ho⟩ | ⟨hj, he⟩
  ·exact ⟨o, ho, fun _ h => h⟩
  ·subst he; subst hj; exact ⟨_, hi, fun _ h => h⟩
 refine ⟨h.os, h.tape, h.output, ?_, h.le, ?_, h.fresh, by simp [h.len], ?_, ?_, ?_, ?_⟩
 ·intro b o ho
  have : b ≠ envAt env i := by
   intro hb
   have := (hown ⟨b, 0, none⟩ hb).2
   simp only at this
   rw [this] at ho
   simp at ho
  rw [hother b this]
  exact h.frame b o ho
 ·intro a x hx
  have : a.block ≠ envAt env i := by
   intro hb
   rw [(hown a hb).1] at hx
   simp at hx
  rw [cell_setRow_other w _ _ a this]
  exact h.holds a x hx
 ·intro j o ho
  rcases hget j o ho with ⟨hj, ho⟩ | ⟨hj, he⟩
  ·have hs' := h.sat j o ho
   cases o with
   | gone => trivial
   | blk cs2 ty2 =>
    obtain ⟨k1, k2⟩ := hs'
    refine ⟨?_, fun x hx => SV.ok_mono (fun _ => alive_set (by simp)) (k2 x hx)⟩
    rw [hother _ (hblk j _ hj ho ⟨envAt env j, 0, none⟩ rfl)]
    exact k1
   | row x cs e sz =>
    exact rowSat_of hs' fun g hg => hother _ (hblk j _ hj ho ⟨g, 0, none⟩ hg)
  ·subst he; subst hj
   exact ⟨setRow_heap w _ _ _ _ _ hs.1, fun x hx => SV.ok_mono (fun _ => alive_set (by simp)) (hcs x hx)⟩
 ·intro j o a ho ha
  obtain ⟨o0, h1, h2⟩ := hgown j o ho
  exact h.apartV j o0 a h1 (h2 a ha)
 ·intro j o a ho ha
  obtain ⟨o0, h1, h2⟩ := hgown j o ho
  exact h.apartF j o0 a h1 (h2 a ha)
 ·intro j k o o' a hjk ho ho' ha ha'
  obtain ⟨o0, h1, h2⟩ := hgown j o ho
  obtain ⟨o1, h3, h4⟩ := hgown k o' ho'
  exact h.apart j k o0 o1 a hjk h1 h3 (h2 a ha) (h4 a ha')

/-! ### Values that an operation yields -/
theorem pv_ok {T : List TyD} {op : Op} {e : Operand → Option SV} {M : List OB} (he : ∀ x a, e x = some a → a.ok M) {r : SV} (h : pv T op e = some r) : r.ok M := by
 unfold pv at h
 split at h
 case h_1 x => exact he _ _ h
 case h_2 x => exact he _ _ h
 case h_5 t x f =>
  split at h
  ·split at h
   ·rename_i a ha
    have := he _ _ ha
    unfold addrAt at h
    split at h
    ·simp only [Option.some.injEq] at h; subst h; exact this
    ·simp only [Option.some.injEq] at h; subst h; exact this
    ·simp only [Option.some.injEq] at h; subst h; trivial
    ·simp at h
   ·simp at h
  ·simp at h
 case h_6 t x f =>
  split at h
  ·split at h
   ·unfold partV at h
    split at h
    ·split at h
     ·simp only [Option.some.injEq] at h; subst h; trivial
     ·simp at h
    ·simp at h
   ·simp at h
  ·simp at h
 all_goals
  repeat' (split at h)
  all_goals first
   | (simp only [Option.some.injEq] at h; subst h; trivial)
   | (simp at h; done)
theorem pickSV_sound {x : Bool} {oa ob : Operand} {a b r : SV} (h : pickSV x oa ob a b = some r) (hca : ∀ y, oa = .const (.bool y) → a = .v (.bool y)) (hcb : ∀ y, ob = .const (.bool y) → b = .v (.bool y)) :
  (∃ q, r = .v (.bool q)) ∧ (x = true → r = a) ∧ (x = false → r = b) := by
 unfold pickSV at h
 split at h
 ·rename_i p q
  split at h
  ·have := hca true rfl
   simp only [SV.v.injEq, Value.bool.injEq] at this
   subst this
   simp only [Option.some.injEq] at h; subst h
   exact ⟨⟨_, rfl⟩, by rintro rfl; rfl, by rintro rfl; rfl⟩
  ·split at h
   ·have := hcb false rfl
    simp only [SV.v.injEq, Value.bool.injEq] at this
    subst this
    simp only [Option.some.injEq] at h; subst h
    exact ⟨⟨_, rfl⟩, by rintro rfl; rfl, by rintro rfl; rfl⟩
   ·simp only [Option.some.injEq] at h; subst h
    exact ⟨⟨_, rfl⟩, by rintro rfl; rfl, by rintro rfl; rfl⟩
 ·simp at h
def Plain (od : Look) : Prop := ∀ y : Value, od (.const y) = some ([], .v y, none)
theorem opd_plain (L : Fr) (lr : List REnt) : Plain (opd L lr) := fun _ => rfl
theorem ev_const {od : Look} (hp : Plain od) {G : List (Nat × Bool)} {y : Value} {a : SV} (h : ev od G (.const y) = some a) : a = .v y := by
 simp only [ev, hp y, subC] at h
 simp only [Option.some.injEq] at h
 exact h.symm
theorem run_loadSV {P : Program} {T : List TyD} (hT : TOk P T) {w : World} {env : List Nat} {b : Nat} {cs : List SV} {ty : Nat} (hb : w.heap[b]? = some (.cells ⟨cs.map (den env)⟩ ty (0, 0)))
  {t : Nat} {d : TyD} (hd : nth T t = some d) (hs : d.size ≠ 0) {o : Nat} {r : SV} (h : loadSV d cs o = some r) : (loadVar t ⟨b, o, none⟩).run P w = .ok (den env r) w := by
 have hcell : ∀ j, w.cell? ⟨b, j, none⟩ = (cs.map (den env))[j]? := fun j => by rw [cell_of_row w b j _ _ _ hb]; simp
 unfold loadSV at h
 simp only [loadVar, Sem.run_bind, t_agg hT w hd hs, Result.andThen_ok]
 split at h
 ·rename_i hag
  split at h
  ·rename_i l hl
   split at h
   ·rename_i r' hr
    simp only [Option.some.injEq] at h; subst h
    obtain ⟨h1, h2⟩ := takeN_pos hl hs
    have h3 := vals_sound (env := env) hr
    have h4 : r'.length = d.size := by rw [← h3, h1]; simp; omega
    have hload := run_loadCells_list (P := P) w ⟨b, o, none⟩ r' (fun j v hv => by
     rw [Addr.add_lit, hcell]
     rw [← h3, h1] at hv
     simp only [List.getElem?_map, List.getElem?_take, List.getElem?_drop] at hv ⊢
     split at hv
     ·exact hv
     ·simp at hv)
    rw [h4] at hload
    simp only [hag, if_true, Sem.run_bind, t_size hT w hd hs, Result.andThen_ok, hload]
    rfl
   ·simp at h
  ·simp at h
 ·rename_i hag
  rw [nth_eq] at h
  simp only [hag, Bool.false_eq_true, if_false, run_load, hcell, List.getElem?_map, h, Option.map_some]
theorem loadSV_ok {d : TyD} {cs : List SV} {o : Nat} {M : List OB} {r : SV} (hcs : ∀ x ∈ cs, x.ok M) (h : loadSV d cs o = some r) : r.ok M := by
 unfold loadSV at h
 split at h
 ·split at h
  ·split at h
   ·simp only [Option.some.injEq] at h; subst h; trivial
   ·simp at h
  ·simp at h
 ·rw [nth_eq] at h
  exact hcs _ (List.mem_of_getElem? h)
end Go.Proofs.YtglnnhmmipopiaaGreat

set_option linter.all false
namespace Go.Proofs.YtglnnhmmipopiaaGreat
theorem fold_put (off : Nat) : ∀ (vs : List Value) (k : Nat) (cur : List Value), off + k + vs.length ≤ cur.length →
  (vs.zipIdx k).foldl (fun (cs : Array Value) (p : Value × Nat) => cs.setIfInBounds (off + p.2) p.1) ⟨cur⟩ = ⟨cur.take (off + k) ++ vs ++ cur.drop (off + k + vs.length)⟩
 | [], k, cur, h => by simp
 | v :: vs, k, cur, h => by
  simp only [List.length_cons] at h
  have ih := fold_put off vs (k + 1) (cur.set (off + k) v) (by simp; omega)
  simp only [List.zipIdx_cons, List.foldl_cons]
  rw [show (⟨cur⟩ : Array Value).setIfInBounds (off + k) v = ⟨cur.set (off + k) v⟩ from by simp, ih]
  congr 1
  apply List.ext_getElem?
  intro j
  simp only [List.getElem?_append, List.length_append, List.length_take, List.length_set, List.getElem?_take, List.getElem?_drop, List.getElem?_set, List.length_cons]
  have e1 : min (off + (k + 1)) cur.length = off + k + 1 := by omega
  have e2 : min (off + k) cur.length = off + k := by omega
  rw [e1, e2]
  by_cases h1 : j < off + k
  ·simp [h1, show j < off + k + 1 by omega, show j < off + (k + 1) by omega, show off + k ≠ j by omega, show j < off + k + 1 + vs.length by omega, show j < off + k + (vs.length + 1) by omega]
  ·by_cases h2 : j = off + k
   ·subst h2
    simp [show off + k < off + (k + 1) by omega, show off + k < cur.length by omega, show off + k < off + k + 1 + vs.length by omega]
   ·by_cases h3 : j < off + k + 1 + vs.length
    ·simp [h1, h3, show ¬ j < off + k + 1 by omega, show j < off + k + (vs.length + 1) by omega, show j - (off + k) = (j - (off + k + 1)) + 1 by omega]
    ·simp [h3, show ¬ j < off + k + (vs.length + 1) by omega, show off + k ≠ off + (k + 1) + vs.length + (j - (off + k + 1 + vs.length)) by omega]
     congr 1
     omega
theorem fillSV_sound {env : List Nat} {M : List OB} {place place' : Nat → Option (Nat × Nat)} (hpl : ∀ i p, place i = some p → place' i = some p) {e : Operand → Option SV} {ρ : Operand → Value} (he : ∀ x a, e x = some a → ρ x = den env a ∧ a.ok M) :
  ∀ (parts : List (Nat × Operand)) (cs r : List SV), (∀ x ∈ cs, x.ok M) → fillSV place e cs parts = some r →
   (Instr.fill place' ⟨cs.map (den env)⟩ (parts.map fun p => (p.1, ρ p.2)) = some ⟨r.map (den env)⟩ ∧ (∀ x ∈ r, x.ok M) ∧ r.length = cs.length)
 | [], cs, r, hcs, h => by
  simp only [fillSV, Option.some.injEq] at h; subst h
  exact ⟨rfl, hcs, rfl⟩
 | (i, x) :: parts, cs, r, hcs, h => by
  simp only [fillSV] at h
  split at h
  ·rename_i off size hp
   split at h
   ·rename_i v hv
    split at h
    ·rename_i vs hvs
     split at h
     ·rename_i hb
      split at h
      ·rename_i cs' hcs'
       obtain ⟨h1, h2⟩ := he x v hv
       obtain ⟨h3, h4⟩ := cellsV_sound (env := env) h2 hvs
       obtain ⟨h5, h6⟩ := putN_sound hcs'
       have hlt : ∀ x ∈ cs', x.ok M := by
        intro y hy
        rw [h6] at hy
        simp only [List.mem_append] at hy
        rcases hy with (hy | hy) | hy
        ·exact hcs y (List.mem_of_mem_take hy)
        ·exact h4 y hy
        ·exact hcs y (List.mem_of_mem_drop hy)
       obtain ⟨k1, k2, k3⟩ := fillSV_sound hpl he parts cs' r hlt h
       have hl : cs'.length = cs.length := by rw [h6]; simp; omega
       refine ⟨?_, k2, by rw [k3, hl]⟩
       have hsz : vs.length = size := beq_nat hb
       simp only [List.map_cons, Instr.fill, hpl _ _ hp, h1, h3]
       rw [if_neg (by simp [hsz]; omega)]
       rw [← k1]
       congr 1
       have := fold_put off (vs.map (den env)) 0 (cs.map (den env)) (by simpa using h5)
       simp only [Nat.add_zero] at this
       rw [h6]
       simp only [List.map_append, List.map_take, List.map_drop, List.length_map] at this ⊢
       rw [← this, ← Array.foldl_toList]
       simp
      ·simp at h
     ·simp at h
    ·simp at h
   ·simp at h
  ·simp at h
section
variable {P : Program} {T : List TyD} (hT : TOk P T)
include hT
theorem allF_places : ∀ (F : List Field), allF T (F.map fun f => (f.offset, f.type)) = true →
  ∃ pl, F.mapM (fun f => (P.info? f.type).map fun i => (f.offset, i.size)) = some pl ∧ pl = F.map fun f => (f.offset, ((nth T f.type).map (·.size)).getD 0)
 | [], _ => ⟨[], by simp, rfl⟩
 | f :: F, h => by
  simp only [List.map_cons, allF] at h
  split at h
  ·rename_i fd hfd
   split at h
   ·simp at h
   ·rename_i n hsz
    obtain ⟨pl, h1, h2⟩ := allF_places F h
    obtain ⟨i, dd, z, k1, k2, k3, k4⟩ := tyD_some (hT.1 _ _ hfd (by omega))
    refine ⟨(f.offset, i.size) :: pl, by simp [List.mapM_cons, k1, h1], ?_⟩
    rw [List.map_cons, hfd, h2]
    subst k4
    rfl
  ·simp at h
theorem buildSV_sound {env : List Nat} {M : List OB} {e : Operand → Option SV} {ρ : Operand → Value} (he : ∀ x a, e x = some a → ρ x = den env a ∧ a.ok M)
  {t : Nat} {parts : List (Nat × Operand)} {r : SV} (h : buildSV T t parts e = some r) (w : World) :
  (Instr.build t ((⟨parts⟩ : Array (Nat × Operand)).map fun (i, x) => (i, ρ x))).run P w = Result.ok (den env r) w ∧ r.ok M := by
 unfold buildSV at h
 split at h <;> try (simp at h; done)
 rename_i d hd
 split at h <;> try (simp at h; done)
 rename_i n hsz
 split at h <;> try (simp at h; done)
 rename_i fs hu
 split at h <;> try (simp at h; done)
 rename_i hall
 split at h <;> try (simp at h; done)
 rename_i z hz
 split at h <;> try (simp at h; done)
 rename_i cs hcs
 split at h <;> try (simp at h; done)
 rename_i l hl
 simp only [Option.some.injEq] at h; subst h
 refine ⟨?_, trivial⟩
 obtain ⟨i, dd, zv, h1, h2, h3, h4⟩ := tyD_some (hT.1 t d hd (by omega))
 obtain ⟨F, k1, k2, k3⟩ := t_struct hT hd (by omega) hu
 subst k2
 obtain ⟨pl, m1, m2⟩ := allF_places hT F.toList hall
 obtain ⟨z1, z2⟩ := liftV_sound (env := env) (M := M) hz
 have f4 := vals_sound (env := env) hl
 refine run_build w t _ ⟨l⟩ ?_
 have hplace : ∀ i p, placeOf T t i = some p → (pl.toArray[i]? : Option (Nat × Nat)) = some p := by
  intro i p hp
  unfold placeOf at hp
  split at hp
  ·rename_i off fd hf
   simp only [Option.some.injEq] at hp; subst hp
   obtain ⟨F', fi, g1, g2, g3, g4, g5⟩ := fieldV_some hT hf
   rw [k1] at g1
   simp only [Option.some.injEq, TypeDesc.struct.injEq] at g1
   subst g1
   rw [m2]
   have : F.toList[i]? = some fi := by simpa using g2
   simp [g2, g3, g4]
  ·simp at hp
 obtain ⟨f1, f2, f3⟩ := fillSV_sound hplace he parts z cs z2 hcs
 have hdz : d.zero = zv.cells.toList := by rw [h4]
 simp only [Program.built, h1, k1, h3, m1]
 rw [← f4, ← f1, z1, hdz]
 have hfun : (fun x : Nat => (pl.toArray[x]? : Option (Nat × Nat))) = fun x : Nat => (pl[x]? : Option (Nat × Nat)) := by funext x; simp
 simp [hfun]
end
theorem repN_sound {env : List Nat} {z : List SV} : ∀ {n : Nat} {r : List SV}, repN z n = some r → r.map (den env) = (List.range (n * z.length)).map (fun i => (z.map (den env))[i % z.length]?.getD default) ∧ (∀ M, (∀ x ∈ z, x.ok M) → ∀ x ∈ r, x.ok M)
 | 0, r, h => by simp only [repN, Option.some.injEq] at h; subst h; simp
 | n + 1, r, h => by
  simp only [repN] at h
  split at h
  ·rename_i r' hr
   simp only [Option.some.injEq] at h; subst h
   obtain ⟨h1, h2⟩ := repN_sound (env := env) hr
   refine ⟨?_, ?_⟩
   ·rw [List.map_append, h1, show (n + 1) * z.length = z.length + n * z.length by rw [Nat.add_mul]; omega, List.range_add, List.map_append, List.map_map]
    congr 1
    ·apply List.ext_getElem?
     intro j
     simp only [List.getElem?_map]
     by_cases hj : j < z.length
     ·simp [hj, Nat.mod_eq_of_lt hj]
     ·simp [hj]
    ·apply List.map_congr_left
     intro i _
     simp
   ·intro m hm x hx
    simp only [List.mem_append] at hx
    rcases hx with hx | hx
    ·exact hm x hx
    ·exact h2 m hm x hx
  ·simp at h
section
variable {P : Program} {T : List TyD} (hT : TOk P T)
include hT
theorem valOf_sound {env : List Nat} {od : Look} {M Mr : List OB} {t : Array Value} {w : World} (hW : RdM env M Mr w) (hO : Tells env M t od) (hp : Plain od)
  {G : List (Nat × Bool)} {o : Oper} {x : SV} {r : Option Nat} (h : valOf T od Mr G o.op = some (x, r)) :
  (condT t G → x.ok M) ∧ (condT t G → (execOp (⟨t, []⟩ : Act).eval o).run P w = .ok (.value (den env x)) w) ∧
   ∀ r0, r = some r0 → (condT t G → t[r0]? = some (den env x)) ∧ (¬ condT t G → t[r0]? = some undef) ∧ ∃ y c v, od y = some (c, v, some r0) := by
 unfold valOf at h
 split at h
 case h_1 y hop =>
  split at h
  ·rename_i c v r' ho
   obtain ⟨h1, h2, h3⟩ := hO _ _ _ _ ho
   split at h
   ·rename_i hs
    have hex : v = x → condT t G → (execOp (⟨t, []⟩ : Act).eval o).run P w = .ok (.value (den env x)) w := by
     rintro rfl hG
     unfold execOp
     simp only [hop, Sem.run_pure, h1 (subC_sound t G c hs hG)]
    split at h
    ·rename_i hs2
     simp only [Option.some.injEq, Prod.mk.injEq] at h
     obtain ⟨rfl, rfl⟩ := h
     refine ⟨fun hG => h2 (subC_sound t G c hs hG), hex rfl, fun r0 hr => ?_⟩
     obtain ⟨k1, k2⟩ := h3 r0 hr
     subst hr
     exact ⟨fun hG => k1 (subC_sound t G c hs hG), fun hG => k2 fun hc => hG (subC_sound t c G hs2 hc), _, _, _, ho⟩
    ·simp only [Option.some.injEq, Prod.mk.injEq] at h
     obtain ⟨rfl, rfl⟩ := h
     exact ⟨fun hG => h2 (subC_sound t G c hs hG), hex rfl, fun r0 hr => by simp at hr⟩
   ·simp at h
  ·simp at h
 case h_2 c a b hop =>
  split at h
  ·rename_i cc xb rc ho
   obtain ⟨h1, h2, h3⟩ := hO _ _ _ _ ho
   split at h
   ·rename_i hs
    split at h
    ·rename_i r'
     split at h
     ·rename_i va vb hva hvb
      split at h
      ·rename_i v hv
       simp only [Option.some.injEq, Prod.mk.injEq] at h
       obtain ⟨rfl, rfl⟩ := h
       obtain ⟨⟨q, rfl⟩, k1, k2⟩ := pickSV_sound hv (fun y hy => by subst hy; exact ev_const hp hva) (fun y hy => by subst hy; exact ev_const hp hvb)
       refine ⟨fun _ => trivial, fun hG => ?_, fun r0 hr => by simp at hr⟩
       have hc := h1 (subC_sound t G cc hs hG)
       have hts : t[r']? = some (.bool xb) := (h3 r' rfl).1 (subC_sound t G cc hs hG)
       unfold execOp
       simp only [hop, hc, den, asBool, Sem.run_bind, Sem.run_pure, Result.andThen_ok]
       cases xb with
       | true =>
        have := ev_sound hO (G := (r', true) :: G) ⟨hts, hG⟩ hva
        rw [← k1 rfl] at this
        simp [this, den]
       | false =>
        have := ev_sound hO (G := (r', false) :: G) ⟨hts, hG⟩ hvb
        rw [← k2 rfl] at this
        simp [this, den]
      ·simp at h
     ·simp at h
    ·split at h
     ·rename_i va vb hva hvb
      split at h
      ·rename_i v hv
       simp only [Option.some.injEq, Prod.mk.injEq] at h
       obtain ⟨rfl, rfl⟩ := h
       obtain ⟨⟨q, rfl⟩, k1, k2⟩ := pickSV_sound hv (fun y hy => by subst hy; exact ev_const hp hva) (fun y hy => by subst hy; exact ev_const hp hvb)
       refine ⟨fun _ => trivial, fun hG => ?_, fun r0 hr => by simp at hr⟩
       have hc := h1 (subC_sound t G cc hs hG)
       unfold execOp
       simp only [hop, hc, den, asBool, Sem.run_bind, Sem.run_pure, Result.andThen_ok]
       cases xb with
       | true =>
        have := ev_sound hO hG hva
        rw [← k1 rfl] at this
        simp [this, den]
       | false =>
        have := ev_sound hO hG hvb
        rw [← k2 rfl] at this
        simp [this, den]
      ·simp at h
     ·simp at h
   ·simp at h
  ·simp at h
 case h_3 ty y hop =>
  split at h <;> try (simp at h; done)
  rename_i d hd
  split at h <;> try (simp at h; done)
  rename_i n hsz
  split at h <;> try (simp at h; done)
  rename_i i o' hx
  split at h <;> try (simp at h; done)
  rename_i cs ty' hM
  split at h <;> try (simp at h; done)
  rename_i v hv
  simp only [Option.some.injEq, Prod.mk.injEq] at h
  obtain ⟨rfl, rfl⟩ := h
  rw [nth_eq] at hM
  have hs := hW.1 i _ _ hM
  refine ⟨fun _ => loadSV_ok hs.2 hv, fun hG => ?_, fun r0 hr => by simp at hr⟩
  have hx' := ev_sound hO hG hx
  unfold execOp
  simp [hop, hx', den, Instr.loadAt, Instr.sureAddr, run_loadSV hT hs.1 hd (by omega) hv]
 case h_4 y hop =>
  split at h <;> try (simp at h; done)
  ·rename_i i o' hx
   simp only [Option.some.injEq, Prod.mk.injEq] at h
   obtain ⟨rfl, rfl⟩ := h
   refine ⟨fun hG => ev_ok hO hG hx, fun hG => ?_, fun r0 hr => by simp at hr⟩
   have hx' := ev_sound hO hG hx
   unfold execOp
   simp only [hop, hx', den, Sem.run_pure]
  ·rename_i a hx
   simp only [Option.some.injEq, Prod.mk.injEq] at h
   obtain ⟨rfl, rfl⟩ := h
   refine ⟨fun hG => ev_ok hO hG hx, fun hG => ?_, fun r0 hr => by simp at hr⟩
   have hx' := ev_sound hO hG hx
   unfold execOp
   simp only [hop, hx', den, Sem.run_pure]
 case h_5 ty parts hop =>
  split at h <;> try (simp at h; done)
  rename_i v hv
  simp only [Option.some.injEq, Prod.mk.injEq] at h
  obtain ⟨rfl, rfl⟩ := h
  have hlt : v.ok M := by
   unfold buildSV at hv
   repeat' (split at hv)
   all_goals first
    | (simp only [Option.some.injEq] at hv; subst hv; trivial)
    | (simp at hv; done)
  refine ⟨fun _ => hlt, fun hG => ?_, fun r0 hr => by simp at hr⟩
  have := (buildSV_sound hT (ρ := (⟨t, []⟩ : Act).eval) (fun x a hxa => ⟨ev_sound hO hG hxa, ev_ok hO hG hxa⟩) hv w).1
  unfold execOp
  simp only [hop]
  simp only [Sem.run_bind, this, Result.andThen_ok, Sem.run_pure]
 case h_6 =>
  split at h <;> try (simp at h; done)
  rename_i v hv
  simp only [Option.some.injEq, Prod.mk.injEq] at h
  obtain ⟨rfl, rfl⟩ := h
  refine ⟨fun hG => pv_ok (fun x a hxa => ev_ok hO hG hxa) hv, fun hG => ?_, fun r0 hr => by simp at hr⟩
  exact pv_sound hT w env _ (ev od G) (fun x a hxa => ev_sound hO hG hxa) (fun x a hxa => ev_ok hO hG hxa) o v hv
end
end Go.Proofs.YtglnnhmmipopiaaGreat

set_option linter.all false
namespace Go.Proofs.YtglnnhmmipopiaaGreat
section
variable {P : Program} {T : List TyD} (hT : TOk P T)
include hT
theorem memOf_sound {V0 V : View} {FR : Frm} {env : List Nat} {od : Look} {M : List OB} {t : Array Value} {w : World} (hW : WOk V0 FR env V M w) (hO : Tells env M t od)
  {o : Oper} {x : Option SV} {M' : List OB} (h : memOf T od M o.op = some (x, M')) :
  ∃ env' w', (∃ r, env' = env ++ r) ∧ (x ≠ none → ∃ r, M' = M ++ r) ∧ (x = none → ∃ i b, stAt od o.op = some i ∧ M' = M.set i b) ∧ WOk V0 FR env' V M' w' ∧ (∀ L, LOk env M L t → LOk env' M' L t) ∧ (∀ lr, ROk env M lr t → ROk env' M' lr t) ∧
   (match x with
    | some x => x.ok M' ∧ (execOp (⟨t, []⟩ : Act).eval o).run P w = .ok (.value (den env' x)) w'
    | none => (execOp (⟨t, []⟩ : Act).eval o).run P w = .ok .skip w') := by
 unfold memOf at h
 split at h
 case h_1 ty a b hop =>
  split at h <;> try (simp at h; done)
  rename_i d hd
  split at h <;> try (simp at h; done)
  rename_i sz hsz
  split at h <;> try (simp at h; done)
  rename_i i off v ha hb
  split at h <;> try (simp at h; done)
  rename_i cs ty' hM
  split at h <;> try (simp at h; done)
  rename_i vs hvs
  split at h <;> try (simp at h; done)
  rename_i hlen hone
  split at h <;> try (simp at h; done)
  rename_i cs' hcs'
  split at h <;> try (simp at h; done)
  rename_i M2 hM2
  simp only [Option.some.injEq, Prod.mk.injEq] at h
  obtain ⟨rfl, rfl⟩ := h
  rw [nth_eq] at hM
  obtain ⟨hi, rfl⟩ := setN_sound hM2
  have hs := hW.sat i _ hM
  have ha' : (⟨t, []⟩ : Act).eval a = .pointer (some ⟨envAt env i, off, none⟩) := ev_sound hO (G := []) trivial ha
  have hb' := ev_sound hO (G := []) trivial hb
  obtain ⟨c1, c2⟩ := cellsV_sound (env := env) (ev_ok hO (G := []) trivial hb) hvs
  obtain ⟨p1, p2⟩ := putN_sound hcs'
  have hl : cs'.length = cs.length := by rw [p2]; simp; omega
  have hlt : ∀ x ∈ cs', x.ok M := by
   intro y hy
   rw [p2] at hy
   simp only [List.mem_append] at hy
   rcases hy with (hy | hy) | hy
   ·exact hs.2 y (List.mem_of_mem_take hy)
   ·exact c2 y hy
   ·exact hs.2 y (List.mem_of_mem_drop hy)
  refine ⟨env, w.setRow (envAt env i) ⟨cs'.map (den env)⟩, ⟨[], by simp⟩, fun h => absurd rfl h, fun _ => ⟨i, _, by simp only [hop, stAt, ha], rfl⟩, hW.store hM hlt hl, fun _ hL => hL.set (by simp), fun _ hR => hR.set (by simp), ?_⟩
  have hsv : vs.length = d.size := by rw [beq_nat hlen, hsz]
  have hst := run_storeCells_at (P := P) (envAt env i) off ty' (vs.map (den env)) 0 ⟨cs.map (den env)⟩ w hs.1 (by simp; omega) (allOne_sound hone)
  have hrow : (⟨cs'.map (den env)⟩ : Array Value) = ⟨(cs.map (den env)).take off ++ vs.map (den env) ++ (cs.map (den env)).drop (off + vs.length)⟩ := by
   rw [p2]; simp
  unfold execOp
  simp only [hop, ha', hb', Instr.storeAt, Instr.sureAddr, storeVar, Sem.run_bind, Sem.run_pure, Result.andThen_ok, t_size hT w hd (by omega), c1]
  rw [if_neg (by simp [hsv])]
  simp only [Nat.add_zero, List.length_map] at hst
  simp only [Result.andThen_ok, hst, hrow]
 case h_2 ty a hop =>
  split at h <;> try (simp at h; done)
  rename_i v ha
  split at h <;> try (simp at h; done)
  rename_i cs hcs
  split at h <;> try (simp at h; done)
  rename_i M2 n hM2
  simp only [Option.some.injEq, Prod.mk.injEq] at h
  obtain ⟨rfl, rfl⟩ := h
  obtain ⟨rfl, hn⟩ := snocN_sound hM2
  have ha' := ev_sound hO (G := []) trivial ha
  obtain ⟨c1, c2⟩ := cellsV_sound (env := env) (ev_ok hO (G := []) trivial ha) hcs
  refine ⟨env ++ [w.heap.size], _, ⟨_, rfl⟩, fun _ => ⟨_, rfl⟩, fun h => by simp at h, hW.alloc c2 ty, fun _ hL => hL.mono hW.len _ _, fun _ hR => hR.mono hW.len _ _, ?_, ?_⟩
  ·exact ⟨_, by rw [hn]; simp; rfl, by simp⟩
  ·unfold execOp
   simp only [hop, ha', Instr.box, newVar, newRow, Sem.run_bind, Sem.run_pure, Result.andThen_ok, run_newObj, c1]
   simp only [den, hn, Nat.zero_add, ← hW.len, envAt_new]
   rfl
 case h_3 ty hop =>
  split at h <;> try (simp at h; done)
  rename_i d hd
  split at h <;> try (simp at h; done)
  rename_i k hsz
  split at h <;> try (simp at h; done)
  rename_i z hz
  split at h <;> try (simp at h; done)
  rename_i M2 n hM2
  simp only [Option.some.injEq, Prod.mk.injEq] at h
  obtain ⟨rfl, rfl⟩ := h
  obtain ⟨rfl, hn⟩ := snocN_sound hM2
  obtain ⟨c1, c2⟩ := liftV_sound (env := env) (M := M) hz
  obtain ⟨i, dd, zv, h1, h2, h3, h4⟩ := tyD_some (hT.1 _ d hd (by omega))
  have hdz : d.zero = zv.cells.toList := by rw [h4]
  refine ⟨env ++ [w.heap.size], _, ⟨_, rfl⟩, fun _ => ⟨_, rfl⟩, fun h => by simp at h, hW.alloc c2 ty, fun _ hL => hL.mono hW.len _ _, fun _ hR => hR.mono hW.len _ _, ?_, ?_⟩
  ·exact ⟨_, by rw [hn]; simp; rfl, by simp⟩
  ·unfold execOp
   simp only [hop, Instr.alloc, zeroValue, typeInfo, newVar, newRow, Sem.run_bind, run_program, h1, h3, Sem.run_pure, Result.andThen_ok, run_newObj, den, hn, Nat.zero_add, ← hW.len, envAt_new, c1, hdz]
   rfl
 case h_4 => simp at h
theorem bslOf_sound {V0 V : View} {FR : Frm} {env : List Nat} {od : Look} {M : List OB} {t : Array Value} {w : World} (hW : WOk V0 FR env V M w) (hO : Tells env M t od)
  {o : Oper} {x : SV} {M' : List OB} {n0 e0 : Nat} {cs0' : List SV} (h : bslOf T od M o.op = some (x, M', n0, cs0', e0)) :
  ∃ env' w', (∃ r, env' = env ++ r) ∧ (∃ r, M' = M ++ r) ∧ WOk V0 FR env' V M' w' ∧ (∀ L, LOk env M L t → LOk env' M' L t) ∧ (∀ lr, ROk env M lr t → ROk env' M' lr t) ∧
   x.ok M' ∧ (execOp (⟨t, []⟩ : Act).eval o).run P w = .ok (.value (den env' x)) w' := by
 unfold bslOf at h
 split at h <;> try (simp at h; done)
 rename_i ty len parts hop
 split at h <;> try (simp at h; done)
 rename_i d hd
 split at h <;> try (simp at h; done)
 rename_i k hsz
 split at h <;> try (simp at h; done)
 rename_i e hu
 split at h <;> try (simp at h; done)
 rename_i ed hed
 split at h <;> try (simp at h; done)
 rename_i sz hesz
 split at h <;> try (simp at h; done)
 rename_i z hbig hz hzl
 split at h <;> try (simp at h; done)
 rename_i cs0 hcs0
 split at h <;> try (simp at h; done)
 rename_i cs hcs
 split at h <;> try (simp at h; done)
 rename_i M2 n hM2
 simp only [Option.some.injEq, Prod.mk.injEq] at h
 obtain ⟨rfl, rfl, rfl, rfl, rfl⟩ := h
 obtain ⟨rfl, hn⟩ := snocN_sound hM2
 obtain ⟨c1, c2⟩ := liftV_sound (env := env) (M := M) hz
 obtain ⟨i, dd, zv, h1, h2, h3, h4⟩ := tyD_some (hT.1 _ ed hed (by omega))
 have hdz : ed.zero = zv.cells.toList := by rw [h4]
 have hzl' : z.length = sz + 1 := by
  have := beq_nat hzl
  rw [← this, ← c1]; simp
 obtain ⟨r1, r2⟩ := repN_sound (env := env) hcs0
 obtain ⟨f1, f2, f3⟩ := fillSV_sound (place' := fun i => some (i * (sz + 1), sz + 1)) (fun _ _ h => h) (ρ := (⟨t, []⟩ : Act).eval)
  (fun x a hxa => ⟨ev_sound hO (G := []) trivial hxa, ev_ok hO (G := []) trivial hxa⟩) parts cs0 cs (r2 _ c2) hcs
 refine ⟨env ++ [w.heap.size], _, ⟨_, rfl⟩, ⟨_, rfl⟩, hW.alloc f2 e, fun _ hL => hL.mono hW.len _ _, fun _ hR => hR.mono hW.len _ _, ?_, ?_⟩
 ·exact ⟨_, by rw [hn]; simp; rfl, by simp⟩
 ·have hes : (sizeOf e).run P w = .ok (sz + 1) w := by rw [t_size hT w hed (by omega), hesz]
  have hle : ¬ len * (sz + 1) > 2 ^ 24 := by
   have := Nat.le_of_ble_eq_true hbig
   omega
  have hzero : (zeroValue e).run P w = .ok zv w := by simp [zeroValue, typeInfo, h1, h3]
  have hz2 : zv.cells.size = sz + 1 := by
   have : zv.cells.toList.length = sz + 1 := by rw [← hdz, ← c1]; simp [hzl']
   simpa using this
  have hcells : (Array.range (len * (sz + 1))).map (fun i => (zv.cells)[i % zv.cells.size]!) = ⟨cs0.map (den env)⟩ := by
   rw [r1, hzl', c1, hdz]
   apply Array.ext'
   simp [hz2]
   intro a _
   rw [getElem!_def]
   cases zv.cells[a % (sz + 1)]? <;> rfl
  unfold execOp
  simp only [hop, Instr.buildSlice, Sem.run_bind, run_underlying (t_slice hT hd (by omega) hu), Result.andThen_ok, hes, if_neg hle]
  by_cases h0 : len * (sz + 1) = 0
  ·have hl0 : len = 0 := by
    rcases Nat.mul_eq_zero.1 h0 with h | h
    ·exact h
    ·omega
   subst hl0
   simp only [repN, Option.some.injEq] at hcs0
   subst hcs0
   simp only [h0, if_true, Sem.run_pure]
   simp only [List.map_nil] at f1
   simp only [Array.range_zero', Array.map_empty, Array.toList_map] 
   rw [show (#[] : Array Value) = ⟨[]⟩ from rfl, f1]
   simp [newRow, den, hn, ← hW.len, envAt_new]
  ·simp only [h0, if_false, Sem.run_bind, hzero, Sem.run_pure, Result.andThen_ok, hcells, Array.toList_map]
   rw [f1]
   simp [newRow, den, hn, ← hW.len, envAt_new]
end
end Go.Proofs.YtglnnhmmipopiaaGreat

set_option linter.all false
namespace Go.Proofs.YtglnnhmmipopiaaGreat
theorem Exec.of {C : Ctx} {s : St} {V : View} (h : ∀ FR DF env t w, t.size = C.nt → WOk C.V0 FR env V s.M w → LOk env s.M s.L t → ROk env s.M (hdR s.k) t → DOk DF env V s.M s.k → post C FR DF s.k .normal ⟨t, []⟩ w) : Exec C s V := by
 unfold Exec; exact h
theorem Exec.to {C : Ctx} {s : St} {V : View} (h : Exec C s V) : ∀ FR DF env t w, t.size = C.nt → WOk C.V0 FR env V s.M w → LOk env s.M s.L t → ROk env s.M (hdR s.k) t → DOk DF env V s.M s.k → post C FR DF s.k .normal ⟨t, []⟩ w := by
 unfold Exec at h; exact h
theorem ROk.nil (env : List Nat) (M : List OB) (t : Array Value) : ROk env M [] t := fun s e h => by simp [lookR] at h
theorem noOps_hd {k : List Kt} (hk : noOps k = true) : hdR k = [] := by
 unfold noOps at hk
 split at hk
 ·simp at hk
 ·simp at hk
 ·rename_i h1 h2
  unfold hdR
  split
  ·exact absurd rfl (h1 _ _ _ _)
  ·exact absurd rfl (h2 _ _)
  ·rfl
theorem noOps_D {k : List Kt} (hk : noOps k = true) (DF : DFr) (env : List Nat) (V : View) (M : List OB) : DOk DF env V M k := by
 unfold noOps at hk
 split at hk
 ·simp at hk
 ·simp at hk
 ·rename_i h1 h2
  unfold DOk
  split
  ·exact absurd rfl (h2 _ _)
  ·exact absurd rfl (h1 _ _ _ _)
  ·trivial
theorem Exec.to0 {C : Ctx} {k : List Kt} {L : Fr} {M : List OB} {V : View} (hk : noOps k = true) (h : Exec C ⟨k, L, M⟩ V) {FR env t w} (h1 : t.size = C.nt) (h2 : WOk C.V0 FR env V M w) (h3 : LOk env M L t) (DF : DFr) :
  post C FR DF k .normal ⟨t, []⟩ w := h.to FR DF env t w h1 h2 h3 (by rw [noOps_hd hk]; exact ROk.nil env _ t) (noOps_D hk DF env V M)
theorem rdM_app (mask : List Nat) : ∀ (i n : Nat) (M q : List OB), n ≤ M.length → rdM mask i n (M ++ q) = rdM mask i n M
 | _, 0, M, q, _ => by cases M <;> cases q <;> simp [rdM]
 | i, n + 1, [], q, h => by simp at h
 | i, n + 1, a :: M, q, h => by
  have ih := rdM_app mask (i + 1) n M q (by simpa using h)
  simp only [List.cons_append, rdM, ih]
theorem rdM_set (mask : List Nat) (b : OB) : ∀ (n j : Nat) (i : Nat) (M : List OB), (inL (i + j) mask = true ∨ n ≤ j) → rdM mask i n (M.set j b) = rdM mask i n M
 | 0, j, i, M, _ => by cases M <;> cases j <;> simp [rdM]
 | n + 1, j, i, [], _ => by simp
 | n + 1, 0, i, a :: M, h => by
  rcases h with h | h
  ·rw [Nat.add_zero] at h
   simp only [List.set_cons_zero, rdM, h]
  ·omega
 | n + 1, j + 1, i, a :: M, h => by
  have ih := rdM_set mask b n j (i + 1) M (by
   rcases h with h | h
   ·left; rw [show i + 1 + j = i + (j + 1) by omega]; exact h
   ·right; omega)
  simp only [List.set_cons_succ, rdM, ih]
theorem rdM_get (mask : List Nat) : ∀ (i n : Nat) (M : List OB) (j : Nat) (o : OB), (rdM mask i n M)[j]? = some o → j < n ∧ (o ≠ .gone → M[j]? = some o)
 | _, 0, M, j, o, h => by cases M <;> simp [rdM] at h
 | i, n + 1, [], j, o, h => by simp [rdM] at h
 | i, n + 1, a :: M, 0, o, h => by
  simp only [rdM] at h
  split at h
  ·simp only [List.getElem?_cons_zero, Option.some.injEq] at h
   exact ⟨by omega, fun hn => absurd h.symm hn⟩
  ·simp only [List.getElem?_cons_zero, Option.some.injEq] at h
   exact ⟨by omega, fun _ => by simp [h]⟩
 | i, n + 1, a :: M, j + 1, o, h => by
  simp only [rdM] at h
  split at h
  all_goals
   simp only [List.getElem?_cons_succ] at h
   obtain ⟨h1, h2⟩ := rdM_get mask (i + 1) n M j o h
   exact ⟨by omega, fun hn => by simpa using h2 hn⟩
theorem DOk0.grow {DF : DFr} {D : Draw} {env env' : List Nat} {V V' : View} {M M' : List OB} (h : DOk0 DF D env V M) (he : ∃ r, env' = env ++ r) (hv : VLe V V') (hm : ∃ r, M' = M ++ r) : DOk0 DF D env' V' M' := by
 obtain ⟨r, rfl⟩ := he
 obtain ⟨q, rfl⟩ := hm
 obtain ⟨r0, hr0⟩ := h.pre
 refine ⟨⟨r0 ++ r, by rw [hr0, List.append_assoc]⟩, h.len, by have := h.lenM; simp; omega, h.v, h.vle.trans hv, h.ok, fun hn => ?_, h.plan⟩
 rw [rdM_app _ _ _ _ _ h.lenM]
 exact h.mem hn
theorem DOk.grow {DF : DFr} {env env' : List Nat} {V V' : View} {M M' : List OB} (he : ∃ r, env' = env ++ r) (hv : VLe V V') (hm : ∃ r, M' = M ++ r) : ∀ {k : List Kt}, DOk DF env V M k → DOk DF env' V' M' k
 | .draw D :: _, h => DOk0.grow h he hv hm
 | .ops _ _ _ :: .draw D :: _, h => DOk0.grow h he hv hm
 | [], h => trivial
 | .code _ :: _, h => trivial
 | .inBlock _ :: _, h => trivial
 | .inLoop _ :: _, h => trivial
 | [.ops _ _ _], h => trivial
 | .ops _ _ _ :: .code _ :: _, h => trivial
 | .ops _ _ _ :: .inBlock _ :: _, h => trivial
 | .ops _ _ _ :: .inLoop _ :: _, h => trivial
 | .ops _ _ _ :: .ops _ _ _ :: _, h => trivial
theorem DOk.write {DF : DFr} {env : List Nat} {V : View} {M : List OB} {i : Nat} {b : OB} {rest all : List Oper} {lr : List REnt} : ∀ {k : List Kt}, wrOk i k = true → DOk DF env V M (.ops rest all lr :: k) → DOk DF env V (M.set i b) (.ops rest all lr :: k)
 | .draw D :: _, hn, h => by
  have h : DOk0 DF D env V M := h
  refine (⟨h.pre, h.len, by simpa using h.lenM, h.v, h.vle, h.ok, fun hu => ?_, h.plan⟩ : DOk0 DF D env V (M.set i b))
  rw [rdM_set]
  ·exact h.mem hu
  ·simp only [wrOk, hu] at hn
   split at hn
   ·rename_i hi; exact .inl (by simpa using hi)
   ·exact .inr (by simpa using Nat.le_of_ble_eq_true hn)
 | [], _, _ => trivial
 | .code _ :: _, _, _ => trivial
 | .inBlock _ :: _, _, _ => trivial
 | .inLoop _ :: _, _, _ => trivial
 | .ops _ _ _ :: _, _, _ => trivial
theorem DOk.same {DF : DFr} {env : List Nat} {V : View} {M : List OB} {rest rest' all all' : List Oper} {lr lr' : List REnt} : ∀ {k : List Kt}, DOk DF env V M (.ops rest all lr :: k) → DOk DF env V M (.ops rest' all' lr' :: k)
 | .draw _ :: _, h => h
 | [], _ => trivial
 | .code _ :: _, _ => trivial
 | .inBlock _ :: _, _ => trivial
 | .inLoop _ :: _, _ => trivial
 | .ops _ _ _ :: _, _ => trivial
theorem DOk.ops0 {DF : DFr} {env : List Nat} {V : View} {M : List OB} {rest all : List Oper} {lr : List REnt} : ∀ {k : List Kt}, noOps k = true → DOk DF env V M (.ops rest all lr :: k)
 | .draw _ :: _, h => by simp [noOps] at h
 | [], _ => trivial
 | .code _ :: _, _ => trivial
 | .inBlock _ :: _, _ => trivial
 | .inLoop _ :: _, _ => trivial
 | .ops _ _ _ :: _, _ => trivial
theorem toK_sound {C : Ctx} {k : List Kt} {L : Fr} {M : List OB} {s' : St} {V : View} (hs : toK k L M = some s') (h : Exec C s' V) {FR env t w} (h1 : t.size = C.nt) (h2 : WOk C.V0 FR env V M w) (h3 : LOk env M L t) (DF : DFr) :
  post C FR DF k .normal ⟨t, []⟩ w := by
 unfold toK at hs
 split at hs
 ·rename_i hk
  simp only [Option.some.injEq] at hs; subst hs
  exact h.to0 hk h1 h2 h3 DF
 ·simp at hs


/-! ### Lists -/
theorem lenL_eq {α : Type} : ∀ l : List α, lenL l = l.length
 | [] => rfl
 | a :: l => by simp [lenL, lenL_eq l]
theorem fals_eq : ∀ l : List Oper, (⟨fals l⟩ : Array Bool) = Array.replicate l.length false := by
 intro l
 apply Array.ext'
 rw [Array.toList_replicate]
 show fals l = List.replicate l.length false
 induction l with
 | nil => rfl
 | cons a l ih => simp [fals, ih, List.replicate_succ]
theorem inL_iff {i : Nat} : ∀ {l : List Nat}, inL i l = true ↔ i ∈ l
 | [] => by simp [inL]
 | a :: l => by
  unfold inL
  split
  ·rename_i h; simp [Nat.eq_of_beq_eq_true h]
  ·rename_i h
   have := Nat.ne_of_beq_eq_false h
   rw [inL_iff (l := l)]
   simp [Ne.symm this]
theorem noneUp_iff {listed : List Bool} : ∀ {ends : List Nat}, noneUp ends listed = true ↔ ∀ e ∈ ends, (⟨listed⟩ : Array Bool).getD e false = false
 | [] => by simp [noneUp]
 | e :: l => by
  have ih := noneUp_iff (listed := listed) (ends := l)
  unfold noneUp
  simp only [List.mem_cons, forall_eq_or_imp]
  rw [← lst_eq]
  split
  ·rename_i h; simp [h]
  ·rename_i h; rw [ih]; simp [h]
theorem envAt_app {env r : List Nat} {i : Nat} (h : i < env.length) : envAt (env ++ r) i = envAt env i := by
 simp [envAt, List.getElem?_append, h]
theorem den_app {env r : List Nat} {M : List OB} (hl : env.length = M.length) : ∀ {x : SV}, x.ok M → den (env ++ r) x = den env x
 | .v _, _ => rfl
 | .ptr _ _, h => by simp only [den, envAt_app (hl ▸ alive_lt h)]
 | .slc _ _ _ _, h => by simp only [den, envAt_app (hl ▸ alive_lt h)]
 | .el _ _, _ => rfl

/-! ### What a region may rely on while it reads -/
theorem SD_of {V0 V : View} {FR : Frm} {DF : DFr} {D : Draw} {env : List Nat} {M : List OB} {w : World} (h : WOk V0 FR env V M w) (hD : DOk0 DF D env V M) (hn : noneUp D.ends D.listed = true) : SD DF w := by
 obtain ⟨r, hr⟩ := hD.pre
 have hq := hD.mem hn
 refine ⟨fun a x hx => h.holds a x (hD.vle a x hx), fun i cs ty hi => ?_, fun i x cs e sz hi => ?_⟩
 case refine_2 =>
  rw [hq] at hi
  exact h.sat i _ ((rdM_get _ _ _ _ _ _ hi).2 (by simp))
 obtain ⟨M1, hl1, hok⟩ := hD.ok
 have hi' := hi
 rw [hq] at hi'
 obtain ⟨hlt, hM⟩ := rdM_get _ _ _ _ _ _ hi'
 have := (h.sat i (.blk cs ty) (hM (by simp))).1
 rw [hr, envAt_app (by rw [hD.len]; exact hlt)] at this
 rw [this]
 congr 3
 exact List.map_congr_left fun x hx => den_app (hD.len.trans hl1.symm) (hok i cs ty hi x hx)
theorem SF_of {V0 V : View} {FR : Frm} {DF : DFr} {D : Draw} {env : List Nat} {M : List OB} {w : World} (h : WOk V0 FR env V M w) (hD : DOk0 DF D env V M) : SF D.ends (SD DF) ⟨D.listed⟩ w :=
 fun hall => SD_of h hD (noneUp_iff.2 hall)
theorem SD.rd {DF : DFr} {D : Draw} {env : List Nat} {V : View} {M : List OB} {w : World} (h : SD DF w) (hD : DOk0 DF D env V M) (hn : noneUp D.ends D.listed = true)
  (hc : ∀ (i : Nat) (cs : List SV) (ty : Nat), M[i]? = some (.blk cs ty) → ∀ x ∈ cs, x.ok M) : Holds D.V w ∧ RdM env M (rdM D.mask 0 D.n0 M) w := by
 obtain ⟨r, hr⟩ := hD.pre
 have hq := hD.mem hn
 obtain ⟨M1, hl1, hok⟩ := hD.ok
 refine ⟨hD.v ▸ h.1, fun i cs ty hi => ?_, fun i x cs e sz hi => h.2.2 i x cs e sz (by rw [hq]; exact hi)⟩
 obtain ⟨hlt, hM⟩ := rdM_get _ _ _ _ _ _ hi
 rw [← hq] at hi
 have h1 := h.2.1 i cs ty hi
 refine ⟨?_, hc i cs ty (hM (by simp))⟩
 rw [hr, envAt_app (by rw [hD.len]; exact hlt), h1]
 congr 3
 exact List.map_congr_left fun x hx => (den_app (hD.len.trans hl1.symm) (hok i cs ty hi x hx)).symm
theorem post_panic {C : Ctx} {FR : Frm} {c : List PanicEntry} {a : Act} {w : World} : ∀ (k : List Kt) (DF : DFr), ¬ post C FR DF k (.panic c) a w
 | [], _ => fun h => by
  obtain ⟨_, v, _, V, _, h1, _⟩ := h
  simp at h1
 | .draw _ :: k, _ => post_panic k _
 | .code _ :: k, _ => post_panic k _
 | .inBlock _ :: k, _ => post_panic k _
 | .inLoop _ :: k, _ => post_panic k _
 | .ops _ _ _ :: k, _ => post_panic k _
theorem wp_exits {P : Program} {o : Oper} {a : Act} {w : World} {K : Act → World → Prop} {Q Q' : Exit → Act → World → Prop} (hQ : ∀ e a w, e ≠ .normal → Q e a w → Q' e a w) (h : o.wp P a w K Q) : o.wp P a w K Q' := by
 have hl : LetsOut Q → LetsOut Q' := fun ⟨a, w, k⟩ => ⟨a, w, hQ _ _ _ (by simp) k⟩
 unfold Oper.wp at *
 generalize (execOp a.eval o).run P w = r at *
 cases r with
 | ok n w' =>
  cases n <;> simp only [Oper.upon] at h ⊢ <;> first
   | exact h
   | exact Calls.mono h (fun e w'' he => by cases e <;> first | exact he | exact hQ _ _ _ (by simp) he | exact hl he)
 | halt x w' => cases x <;> simp only [Oper.upon] at h ⊢ <;> first | exact hQ _ _ _ (by simp) h | exact h
section
variable {C : Ctx}
theorem draw_relr {D : Draw} {lr : List REnt} {all : List Oper} {k : List Kt} {L : Fr} {M : List OB} {V : View} (h : Exec C ⟨.draw ⟨D.all, D.listed, D.n, D.ends, D.n0, D.mask, D.V, D.plan, lr⟩ :: k, L, M⟩ V) :
  Exec C ⟨.ops [] all lr :: .draw D :: k, L, M⟩ V := by
 refine Exec.of fun FR DF env t w h1 h2 h3 h4 h5 => ?_
 have h5 : DOk0 DF D env V M := h5
 exact h.to FR DF env t w h1 h2 h3 h4 (⟨h5.pre, h5.len, h5.lenM, h5.v, h5.vle, h5.ok, h5.mem, h5.plan⟩ : DOk0 DF ⟨D.all, D.listed, D.n, D.ends, D.n0, D.mask, D.V, D.plan, lr⟩ env V M)
theorem Exec.draws (hT : TOk C.P C.T) (plan : List (Nat × Bool)) {id : Nat} {ops : List Oper} {es ms : List Nat} {k : List Kt} {L : Fr} {M : List OB} {V : View} (he : endsOf L ops 0 ops = (es, ms))
  (hp : planOk ops es (lenL ops) (fals ops) plan = true) (h : Exec C ⟨.draw ⟨ops, fals ops, lenL ops, es, lenL M, ms, V, plan, []⟩ :: k, L, M⟩ V) :
  Exec C ⟨.code (.region id ⟨ops⟩ true) :: k, L, M⟩ V := by
 refine Exec.of fun FR DF env t w h1 h2 h3 h4 h5 => ?_
 have hW : WOk C.V0 FR env V M { w with drawn := w.drawn + 1 } := ⟨h2.os, h2.tape, h2.output, h2.frame, h2.le, h2.holds, h2.fresh, h2.len, h2.sat, h2.apartV, h2.apartF, h2.apart⟩
 have := h.to FR ⟨env, V, rdM ms 0 (lenL M) M⟩ env t { w with drawn := w.drawn + 1 } h1 hW h3 (ROk.nil env _ t)
  (⟨⟨[], by simp⟩, h2.len.trans (lenL_eq M).symm, Nat.le_of_eq (lenL_eq M), rfl, VLe.refl V, ⟨M, (lenL_eq M).symm, fun i cs ty hi => (h2.sat i _ ((rdM_get _ _ _ _ _ _ hi).2 (by simp))).2⟩, fun _ => rfl, hp⟩ : DOk0 ⟨env, V, rdM ms 0 (lenL M) M⟩ ⟨ops, fals ops, lenL ops, es, lenL M, ms, V, plan, []⟩ env V M)
 refine wp_region_any hT.2 ?_
 have h6 := wpAny_of_G _ _ _ _ this.2
 rw [lenL_eq, fals_eq] at h6
 exact h6
theorem Exec.drawsE (hT : TOk C.P C.T) (es ms : List Nat) (plan : List (Nat × Bool)) {id : Nat} {ops : List Oper} {k : List Kt} {L : Fr} {M : List OB} {V : View}
  (hp : planOk ops es (lenL ops) (fals ops) plan = true) (h : Exec C ⟨.draw ⟨ops, fals ops, lenL ops, es, lenL M, ms, V, plan, []⟩ :: k, L, M⟩ V) :
  Exec C ⟨.code (.region id ⟨ops⟩ true) :: k, L, M⟩ V := by
 refine Exec.of fun FR DF env t w h1 h2 h3 h4 h5 => ?_
 have hW : WOk C.V0 FR env V M { w with drawn := w.drawn + 1 } := ⟨h2.os, h2.tape, h2.output, h2.frame, h2.le, h2.holds, h2.fresh, h2.len, h2.sat, h2.apartV, h2.apartF, h2.apart⟩
 have := h.to FR ⟨env, V, rdM ms 0 (lenL M) M⟩ env t { w with drawn := w.drawn + 1 } h1 hW h3 (ROk.nil env _ t)
  (⟨⟨[], by simp⟩, h2.len.trans (lenL_eq M).symm, Nat.le_of_eq (lenL_eq M), rfl, VLe.refl V, ⟨M, (lenL_eq M).symm, fun i cs ty hi => (h2.sat i _ ((rdM_get _ _ _ _ _ _ hi).2 (by simp))).2⟩, fun _ => rfl, hp⟩ : DOk0 ⟨env, V, rdM ms 0 (lenL M) M⟩ ⟨ops, fals ops, lenL ops, es, lenL M, ms, V, plan, []⟩ env V M)
 refine wp_region_any hT.2 ?_
 have h6 := wpAny_of_G _ _ _ _ this.2
 rw [lenL_eq, fals_eq] at h6
 exact h6
theorem post_goto {C : Ctx} {FR : Frm} {l : Nat} {a : Act} {w : World} : ∀ (k : List Kt) (DF : DFr), ¬ post C FR DF k (.goto l) a w
 | [], _ => fun h => h
 | .draw _ :: k, _ => post_goto k _
 | .code _ :: k, _ => post_goto k _
 | .inBlock _ :: k, _ => post_goto k _
 | .inLoop _ :: k, _ => post_goto k _
 | .ops _ _ _ :: k, _ => post_goto k _
theorem Exec.scope {c : Code} {k : List Kt} {L : Fr} {M : List OB} {V : View} (h : Exec C ⟨.code c :: k, L, M⟩ V) : Exec C ⟨.code (.scope c) :: k, L, M⟩ V := by
 refine Exec.of fun FR DF env t w h1 h2 h3 h4 h5 => ?_
 have h6 : c.wp C.P (post C FR .none k) ⟨t, []⟩ w := h.to FR DF env t w h1 h2 h3 h4 h5
 refine wp_scope_straight (Code.wp_mono (fun e a w he => ?_) h6)
 cases e with
 | goto l => exact absurd he (post_goto k _)
 | _ => exact he
theorem Exec.pick {D : Draw} {n : Nat} {k : List Kt} {L : Fr} {M : List OB} {V : View} (hs : sameL D.all D.listed = true) (hn : D.n = n + 1) (hne : rdy D.listed 0 D.all ≠ [])
  (h : ∀ i ∈ rdy D.listed 0 D.all, ∀ o, nth D.all i = some o → ∃ p, planOk D.all D.ends n (setT D.listed i) p = true ∧ Exec C ⟨.ops [o] D.all D.lr :: .draw ⟨D.all, setT D.listed i, n, D.ends, D.n0, D.mask, D.V, p, D.lr⟩ :: k, L, M⟩ V) : Exec C ⟨.draw D :: k, L, M⟩ V := by
 refine Exec.of fun FR DF env t w h1 h2 h3 h4 h5 => ?_
 have h5 : DOk0 DF D env V M := h5
 refine ⟨SF_of h2 h5, ?_⟩
 rw [hn]
 refine ⟨fun hr => ?_, fun i hi => ?_⟩
 ·cases hrd : rdy D.listed 0 D.all with
  | nil => exact absurd hrd hne
  | cons a l =>
   have : a ∈ Region.ready .any ⟨D.all⟩ ⟨D.listed⟩ := (ready_rdy hs).2 (by rw [hrd]; simp)
   rw [hr] at this
   simp at this
 ·rw [ready_rdy hs] at hi
  obtain ⟨_, _, o, ho, _⟩ := mem_rdy.1 hi
  rw [Nat.sub_zero] at ho
  obtain ⟨p, hp, h⟩ := h i hi o (by rw [nth_eq]; exact ho)
  have hd : DOk0 DF ⟨D.all, setT D.listed i, n, D.ends, D.n0, D.mask, D.V, p, D.lr⟩ env V M := ⟨h5.pre, h5.len, h5.lenM, h5.v, h5.vle, h5.ok, fun hu => h5.mem (noneUp_iff.2 fun e he => by
   have h7 := noneUp_iff.1 hu e he
   rw [setT_eq] at h7
   cases hc : (⟨D.listed⟩ : Array Bool).getD e false with
   | false => rfl
   | true => rw [getD_set_true hc] at h7; simp at h7), hp⟩
  have h6 := h.to FR DF env t w h1 h2 h3 h4 hd
  have h7 : wpList C.P ⟨D.all⟩ (post C FR DF (.draw ⟨D.all, setT D.listed i, n, D.ends, D.n0, D.mask, D.V, p, D.lr⟩ :: k)) [o] ⟨t, []⟩ w := h6
  have hQ : ∀ e a w, e ≠ .normal → post C FR DF (.draw ⟨D.all, setT D.listed i, n, D.ends, D.n0, D.mask, D.V, p, D.lr⟩ :: k) e a w → post C FR .none k e a w := by
   intro e a w he hp
   cases e with
   | normal => exact absurd rfl he
   | exit id => exact hp
   | goto l => exact hp
   | ret => exact hp
   | panic c => exact hp
   | outgrown => exact hp
  rw [← setT_eq]
  unfold wpOp
  rw [show (⟨D.all⟩ : Array Oper)[i]? = some o from by simpa using ho]
  simp only
  unfold wpList at h7
  by_cases hw : Region.wanted o (yielded ⟨D.all⟩ t) = true
  ·rw [if_pos hw] at h7 ⊢
   rcases h7 with h7 | ⟨h7, a, w, h8⟩
   ·exact .inl (wp_exits hQ h7)
   ·exact .inr ⟨h7, a, w, hQ _ _ _ (by simp) h8⟩
  ·rw [if_neg hw] at h7 ⊢
   exact h7
theorem draw_done {D : Draw} {k : List Kt} {L : Fr} {M : List OB} {V : View} (hs : sameL D.all D.listed = true) (hr : rdy D.listed 0 D.all = []) {s' : St} (hk : toK k L M = some s') (h : Exec C s' V) : Exec C ⟨.draw D :: k, L, M⟩ V := by
 refine Exec.of fun FR DF env t w h1 h2 h3 h4 h5 => ?_
 refine ⟨SF_of h2 h5, ?_⟩
 have hready : Region.ready .any ⟨D.all⟩ ⟨D.listed⟩ = [] := by
  cases hrd : Region.ready .any ⟨D.all⟩ ⟨D.listed⟩ with
  | nil => rfl
  | cons a l =>
   have : a ∈ rdy D.listed 0 D.all := (ready_rdy hs).1 (by rw [hrd]; simp)
   rw [hr] at this
   simp at this
 have hq := toK_sound hk h h1 h2 h3 .none
 cases D.n with
 | zero => exact ⟨hready, hq⟩
 | succ n => exact ⟨fun _ => hq, fun i hi => by rw [hready] at hi; simp at hi⟩
theorem Exec.float {D : Draw} {i n d : Nat} {o : Oper} {G : List (Nat × Bool)} {x : SV} {r : Option Nat} {k : List Kt} {L L' : Fr} {M : List OB} {V : View}
  {p : List (Nat × Bool)} (hDp : D.plan = (i, true) :: p) (hDn : D.n = n + 1) (ho : nth D.all i = some o) (hg : guardC D.all D.lr o.guard = some G) (hd : o.dst = some d) (hn : Nat.blt d C.nt = true) (hf : freshR d D.lr = true)
  (hL' : (G = [] ∧ L' = (d, x) :: L) ∨ (L' = L ∧ lookL L d = none))
  (hx : ∀ env t w, LOk env M L t → ROk env M D.lr t → Holds D.V w → RdM env M (rdM D.mask 0 D.n0 M) w →
   (condT t G → x.ok M) ∧ (condT t G → (execOp (⟨t, []⟩ : Act).eval o).run C.P w = .ok (.value (den env x)) w) ∧
   ∀ r0, r = some r0 → (condT t G → t[r0]? = some (den env x)) ∧ (¬ condT t G → t[r0]? = some undef) ∧ ∃ y c v, opd L D.lr y = some (c, v, some r0))
  (h : Exec C ⟨.draw ⟨D.all, setT D.listed i, n, D.ends, D.n0, D.mask, D.V, p, ⟨d, G, x, r.getD d⟩ :: D.lr⟩ :: k, L', M⟩ V) : Exec C ⟨.draw D :: k, L, M⟩ V := by
 refine Exec.of fun FR DF env t w h1 h2 h3 h4 h5 => ?_
 have h5 : DOk0 DF D env V M := h5
 have h4 : ROk env M D.lr t := h4
 have hdt : d < t.size := by rw [h1]; simpa [Nat.blt_eq] using hn
 -- the side conditions
 have hplan := h5.plan
 rw [hDp, hDn] at hplan
 simp only [planOk] at hplan
 split at hplan <;> try (simp at hplan; done)
 rename_i hh
 unfold headD at hh
 rw [ho] at hh
 simp only [hd] at hh
 split at hh <;> try (simp at hh; done)
 rename_i d' li hd' hli
 simp only [Option.some.injEq] at hd'
 subst hd'
 split at hh <;> try (simp at hh; done)
 rename_i hok
 have hi := hh
 unfold drawOk at hok
 split at hok <;> try (simp at hok; done)
 rename_i hsel hsame hfree hends
 rw [nth_eq] at ho
 obtain ⟨sh, e0, e1, e2⟩ := endsOk_sound hends
 have hup : noneUp D.ends D.listed = true := noneUp_iff.2 (fun e he => e1 e (e0 e he))
 have hrd := inL_iff.1 hi
 have hready := (ready_rdy hsame).2 hrd
 have hw := guard_sound h4 hg
 obtain ⟨f1, f2⟩ := (SD_of h2 h5 hup).rd h5 hup (fun i cs ty hi => (h2.sat i _ hi).2)
 obtain ⟨s1, s2, s3⟩ := hx env t w h3 h4 f1 f2
 have hS := SD_of h2 h5 hup
 -- the value that the slot gets
 have main : ∀ u, ((condT t G → u = den env x) ∧ (¬ condT t G → u = undef)) → YieldsIf C.P ⟨D.all⟩ (SD DF) o u ⟨t, []⟩ → post C FR DF (.draw D :: k) .normal ⟨t, []⟩ w := by
  intro u hu hy
  have hrt : r.getD d = d ∨ (r.getD d ≠ d ∧ t[r.getD d]? = some u) := by
   cases r with
   | none => exact .inl rfl
   | some r0 =>
    obtain ⟨k1, k2, y, c, v, hy⟩ := s3 r0 rfl
    obtain ⟨s, e, k3, k4⟩ := opd_root hy
    right
    simp only [Option.getD_some]
    refine ⟨by rw [← k4]; exact (freshR_look hf k3).2.1, ?_⟩
    by_cases hc : condT t G
    ·rw [k1 hc, hu.1 hc]
    ·rw [k2 hc, hu.2 hc]
  have hD' : DOk0 DF ⟨D.all, setT D.listed i, n, D.ends, D.n0, D.mask, D.V, p, ⟨d, G, x, r.getD d⟩ :: D.lr⟩ env V M := ⟨h5.pre, h5.len, h5.lenM, h5.v, h5.vle, h5.ok, fun _ => h5.mem hup, hplan⟩
  have hp := h.to FR DF env (t.setIfInBounds d u) w (by simpa using h1) h2 (by
   rcases hL' with ⟨rfl, rfl⟩ | ⟨rfl, hnone⟩
   ·rw [hu.1 trivial]
    exact h3.put hdt (s1 trivial)
   ·exact h3.put_new hnone u) (h4.put hdt hf hu.1 hu.2 (guard_fresh hg hf) hrt s1) hD'
  refine ⟨SF_of h2 h5, ?_⟩
  rw [hDn]
  refine wpAnyG_first (i := i) (oi := o) (v := u) (by simpa using ho) (fun j oj cs b hj => noSelB_sound hsel j oj cs b (by simpa using hj)) (fun c a w hq => absurd hq (post_panic k .none)) sh e0 e2 n ⟨D.listed⟩ ⟨t, []⟩ w e1 ?_ hready hy hS ?_
  ·intro j oj hj hji hun hno
   have hj' : D.all[j]? = some oj := by simpa using hj
   refine freeB_sound hd hli hfree j oj (Nat.zero_le _) (by simpa using hj') hji ?_ (fun e he => hno e (by simpa using he))
   rw [lst_eq]
   have hlt : j < D.listed.length := by rw [← sameL_len hsame]; exact (List.getElem?_eq_some_iff.1 hj').1
   simp only [Array.getD_eq_getD_getElem?, List.getElem?_toArray, List.getElem?_eq_getElem hlt, Option.getD_some] at hun ⊢
   exact hun
  ·have h8 := hp.2
   rw [setT_eq] at h8
   simp only [Act.put, hd]
   exact h8
 by_cases hc : condT t G
 ·refine main (den env x) ⟨fun _ => rfl, fun hn => absurd hc hn⟩ (.inl ⟨hw.2 hc, fun w' hw' => ?_⟩)
  obtain ⟨g1, g2⟩ := hw'.rd h5 hup (fun i cs ty hi => (h2.sat i _ hi).2)
  exact (hx env t w' h3 h4 g1 g2).2.1 hc
 ·refine main undef ⟨fun e => absurd e hc, fun _ => rfl⟩ (.inr ⟨?_, rfl⟩)
  cases hb : Region.wanted o (yielded (⟨D.all⟩ : Array Oper) t) with
  | false => rfl
  | true => exact absurd (hw.1 hb) hc
variable (hT : TOk C.P C.T)
include hT
theorem floatP_sound {all : List Oper} {listed : List Bool} {ends : List Nat} {n0 : Nat} {mask : List Nat} {V1 : View} {lr : List REnt} {n i : Nat} {p : List (Nat × Bool)} {k : List Kt} {L : Fr} {M : List OB} {V : View} {s' : St} (h : Exec C s' V)
  (hs : floatP C.T C.nt all listed ends n0 mask V1 lr n i p k L M = some s') : Exec C ⟨.draw ⟨all, listed, n + 1, ends, n0, mask, V1, (i, true) :: p, lr⟩ :: k, L, M⟩ V := by
 unfold floatP at hs
 split at hs <;> try (simp at hs; done)
 rename_i o ho
 split at hs <;> try (simp at hs; done)
 ·rename_i hg
  split at hs <;> try (simp at hs; done)
  rename_i v r hv
  split at hs <;> try (simp at hs; done)
  rename_i d hd
  split at hs <;> try (simp at hs; done)
  rename_i hn hf
  have hx : ∀ env t w, LOk env M L t → ROk env M lr t → Holds V1 w → RdM env M (rdM mask 0 n0 M) w → _ := fun env t w g1 g2 _ g4 => valOf_sound (P := C.P) hT g4 (opd_sound g1 g2) (opd_plain L lr) hv
  split at hs
  ·simp only [Option.some.injEq] at hs; subst hs
   exact Exec.float (D := ⟨all, listed, n + 1, ends, n0, mask, V1, (i, true) :: p, lr⟩) rfl rfl ho hg hd hn hf (.inl ⟨rfl, rfl⟩) hx h
  ·simp only [Option.some.injEq] at hs; subst hs
   exact Exec.float (D := ⟨all, listed, n + 1, ends, n0, mask, V1, (i, true) :: p, lr⟩) rfl rfl ho hg hd hn hf (.inl ⟨rfl, rfl⟩) hx h
 ·rename_i G hG hg
  split at hs <;> try (simp at hs; done)
  rename_i v r hv
  split at hs <;> try (simp at hs; done)
  rename_i d hd
  split at hs <;> try (simp at hs; done)
  rename_i hn hf hl
  have hx : ∀ env t w, LOk env M L t → ROk env M lr t → Holds V1 w → RdM env M (rdM mask 0 n0 M) w → _ := fun env t w g1 g2 _ g4 => valOf_sound (P := C.P) hT g4 (opd_sound g1 g2) (opd_plain L lr) hv
  split at hs
  ·simp only [Option.some.injEq] at hs; subst hs
   exact Exec.float (D := ⟨all, listed, n + 1, ends, n0, mask, V1, (i, true) :: p, lr⟩) rfl rfl ho hg hd hn hf (.inr ⟨rfl, hl⟩) hx h
  ·simp only [Option.some.injEq] at hs; subst hs
   exact Exec.float (D := ⟨all, listed, n + 1, ends, n0, mask, V1, (i, true) :: p, lr⟩) rfl rfl ho hg hd hn hf (.inr ⟨rfl, hl⟩) hx h
omit hT in
theorem spineP {D : Draw} {n i : Nat} {o : Oper} {p : List (Nat × Bool)} {k : List Kt} {L : Fr} {M : List OB} {V : View} (hDp : D.plan = (i, false) :: p) (hDn : D.n = n + 1) (ho : nth D.all i = some o)
  (h : Exec C ⟨.ops [o] D.all D.lr :: .draw ⟨D.all, setT D.listed i, n, D.ends, D.n0, D.mask, D.V, p, D.lr⟩ :: k, L, M⟩ V) : Exec C ⟨.draw D :: k, L, M⟩ V := by
 refine Exec.of fun FR DF env t w h1 h2 h3 h4 h5 => ?_
 have hplan := (show DOk0 DF D env V M from h5).plan
 rw [hDp, hDn] at hplan
 simp only [planOk] at hplan
 split at hplan <;> try (simp at hplan; done)
 rename_i hs hl
 have hr : rdy D.listed 0 D.all = [i] := by
  unfold loneI at hl
  split at hl
  ·rename_i j hj; rw [hj, beq_nat hl]
  ·simp at hl
 refine (Exec.pick hs hDn (by rw [hr]; simp) (fun j hj oj hoj => ?_)).to FR DF env t w h1 h2 h3 h4 h5
 rw [hr] at hj
 simp only [List.mem_singleton] at hj
 subst hj
 rw [ho] at hoj
 simp only [Option.some.injEq] at hoj
 subst hoj
 exact ⟨p, hplan, h⟩
theorem stepD_sound {all : List Oper} {listed : List Bool} {ends : List Nat} {n0 : Nat} {mask : List Nat} {V1 : View} {lr : List REnt} {n : Nat} {plan : List (Nat × Bool)} {k : List Kt} {L : Fr} {M : List OB} {V : View} {s' : St} (hs : stepD C.T C.nt all listed n ends n0 mask V1 plan lr k L M = some s') (h : Exec C s' V) :
  Exec C ⟨.draw ⟨all, listed, n, ends, n0, mask, V1, plan, lr⟩ :: k, L, M⟩ V := by
 unfold stepD at hs
 split at hs
 ·split at hs <;> try (simp at hs; done)
  rename_i hsame hr
  exact draw_done hsame hr hs h
 ·split at hs <;> try (simp at hs; done)
  exact floatP_sound hT h hs
 ·split at hs <;> try (simp at hs; done)
  rename_i o ho
  simp only [Option.some.injEq] at hs; subst hs
  exact spineP (D := ⟨all, listed, _, ends, n0, mask, V1, _, lr⟩) rfl rfl ho h
end
end Go.Proofs.YtglnnhmmipopiaaGreat

set_option linter.all false
namespace Go.Proofs.YtglnnhmmipopiaaGreat
theorem wpList_want {P : Program} {ops : Array Oper} {Q : Exit → Act → World → Prop} {o : Oper} {rest : List Oper} {a : Act} {w : World}
  (h : if Region.wanted o (yielded ops a.tmps) = true then o.wp P a w (wpList P ops Q rest) Q else wpList P ops Q rest (a.put o.dst undef) w) : wpList P ops Q (o :: rest) a w := by
 unfold wpList
 split
 ·rename_i hw; rw [if_pos hw] at h; exact .inl h
 ·rename_i hw; rw [if_neg hw] at h; exact h
theorem wp_value {P : Program} {o : Oper} {a : Act} {w w' : World} {v : Value} {K : Act → World → Prop} {Q : Exit → Act → World → Prop}
  (h : (execOp a.eval o).run P w = .ok (.value v) w') (hk : K (a.put o.dst v) w') : o.wp P a w K Q := by
 unfold Oper.wp; rw [h]; exact hk
theorem wp_skip' {P : Program} {o : Oper} {a : Act} {w w' : World} {K : Act → World → Prop} {Q : Exit → Act → World → Prop}
  (h : (execOp a.eval o).run P w = .ok .skip w') (hk : K (a.put o.dst undef) w') : o.wp P a w K Q := by
 unfold Oper.wp; rw [h]; exact hk
theorem exitK_sound {C : Ctx} {FR : Frm} {id : Nat} {a : Act} {w : World} : ∀ {k k' : List Kt} {DF : DFr}, exitK id k = some k' → (∀ DF, post C FR DF k' .normal a w) → post C FR DF k (.exit id) a w
 | [], k', _, h, _ => by simp [exitK] at h
 | .draw _ :: k, k', _, h, hp => exitK_sound (k := k) h hp
 | .inBlock id' :: k, k', _, h, hp => by
  simp only [exitK] at h
  simp only [post, Exit.inBlock]
  split at h
  ·rename_i hb
   simp only [Option.some.injEq] at h; subst h
   rw [if_pos (beq_nat hb).symm]
   exact hp _
  ·rename_i hb
   rw [if_neg (fun e => beq_nat_false hb e.symm)]
   exact exitK_sound h hp
 | .code c :: k, k', _, h, hp => exitK_sound (k := k) h hp
 | .inLoop I :: k, k', _, h, hp => exitK_sound (k := k) h hp
 | .ops r a l :: k, k', _, h, hp => exitK_sound (k := k) h hp
theorem ret_sound {C : Ctx} {FR : Frm} {a : Act} {w : World} (h : bodyPost C.P C.fn (endP C FR) .ret a w) : ∀ (k : List Kt) (DF : DFr), post C FR DF k .ret a w
 | [], _ => h
 | .draw _ :: k, _ => ret_sound h k _
 | .code _ :: k, _ => ret_sound h k _
 | .inBlock _ :: k, _ => ret_sound h k _
 | .inLoop _ :: k, _ => ret_sound h k _
 | .ops _ _ _ :: k, _ => ret_sound h k _
section
variable {C : Ctx} (hT : TOk C.P C.T)
include hT
theorem Exec.val {o : Oper} {rest all : List Oper} {lr : List REnt} {k : List Kt} {L L' : Fr} {M : List OB} {V : View} {G : List (Nat × Bool)} {x : SV} {r : Option Nat} {d : Nat}
  (hg : guardC all lr o.guard = some G) (hv : valOf C.T (opd L lr) M G o.op = some (x, r)) (hd : o.dst = some d) (hn : Nat.blt d C.nt = true) (hf : freshR d lr = true)
  (hL' : (G = [] ∧ L' = (d, x) :: L) ∨ (L' = L ∧ lookL L d = none)) (h : Exec C ⟨.ops rest all (⟨d, G, x, r.getD d⟩ :: lr) :: k, L', M⟩ V) : Exec C ⟨.ops (o :: rest) all lr :: k, L, M⟩ V := by
 refine Exec.of fun FR DF env t w h1 h2 h3 h4 h5 => ?_
 have hdt : d < t.size := by rw [h1]; simpa [Nat.blt_eq] using hn
 obtain ⟨s1, s2, s3⟩ := valOf_sound hT h2.rd (opd_sound h3 h4) (opd_plain L lr) hv
 have hw := guard_sound h4 hg
 have hrd : ∀ u, ((condT t G → u = den env x) ∧ (¬ condT t G → u = undef)) → r.getD d = d ∨ (r.getD d ≠ d ∧ t[r.getD d]? = some u) := by
  intro u hu
  cases r with
  | none => exact .inl rfl
  | some r0 =>
   obtain ⟨k1, k2, y, c, v, hy⟩ := s3 r0 rfl
   obtain ⟨s, e, k3, k4⟩ := opd_root hy
   right
   simp only [Option.getD_some]
   refine ⟨by rw [← k4]; exact (freshR_look hf k3).2.1, ?_⟩
   by_cases hc : condT t G
   ·rw [k1 hc, hu.1 hc]
   ·rw [k2 hc, hu.2 hc]
 have fin : ∀ u, ((condT t G → u = den env x) ∧ (¬ condT t G → u = undef)) → post C FR DF (.ops rest all (⟨d, G, x, r.getD d⟩ :: lr) :: k) .normal ⟨t.setIfInBounds d u, []⟩ w := by
  intro u hu
  refine h.to FR DF env _ w (by simpa using h1) h2 ?_ (h4.put hdt hf hu.1 hu.2 (guard_fresh hg hf) (hrd u hu) s1) h5.same
  rcases hL' with ⟨rfl, rfl⟩ | ⟨rfl, hnone⟩
  ·rw [hu.1 trivial]
   exact h3.put hdt (s1 trivial)
  ·exact h3.put_new hnone u
 show wpList C.P ⟨all⟩ (post C FR DF k) (o :: rest) ⟨t, []⟩ w
 refine wpList_want ?_
 by_cases hc : condT t G
 ·rw [if_pos (hw.2 hc)]
  refine wp_value (s2 hc) ?_
  simp only [Act.put, hd]
  exact fin (den env x) ⟨fun _ => rfl, fun hn => absurd hc hn⟩
 ·rw [if_neg (fun e => hc (hw.1 e))]
  simp only [Act.put, hd]
  exact fin undef ⟨fun e => absurd e hc, fun _ => rfl⟩
theorem Exec.mem {o : Oper} {rest all : List Oper} {lr : List REnt} {k : List Kt} {L : Fr} {M M' : List OB} {V : View} {x : SV} {d : Nat}
  (hg : guardC all lr o.guard = some []) (hv : memOf C.T (opd L lr) M o.op = some (some x, M')) (hd : o.dst = some d) (hn : Nat.blt d C.nt = true) (hf : freshR d lr = true)
  (h : Exec C ⟨.ops rest all (⟨d, [], x, d⟩ :: lr) :: k, (d, x) :: L, M'⟩ V) : Exec C ⟨.ops (o :: rest) all lr :: k, L, M⟩ V := by
 refine Exec.of fun FR DF env t w h1 h2 h3 h4 h5 => ?_
 have hdt : d < t.size := by rw [h1]; simpa [Nat.blt_eq] using hn
 obtain ⟨env', w', j1, j2, _, k1, k2, k3, k4, k5⟩ := memOf_sound hT h2 (opd_sound h3 h4) hv
 have hw := guard_sound h4 hg
 show wpList C.P ⟨all⟩ (post C FR DF k) (o :: rest) ⟨t, []⟩ w
 refine wpList_want ?_
 rw [if_pos (hw.2 trivial)]
 refine wp_value k5 ?_
 simp only [Act.put, hd]
 exact h.to FR DF env' (t.setIfInBounds d (den env' x)) w' (by simpa using h1) k1 ((k2 _ h3).put hdt k4)
  ((k3 _ h4).put hdt hf (fun _ => rfl) (fun hn => absurd trivial hn) rfl (.inl rfl) (fun _ => k4)) (DOk.grow j1 (VLe.refl V) (j2 (by simp)) h5.same)
theorem Exec.mem0 {o : Oper} {rest all : List Oper} {lr : List REnt} {k : List Kt} {L : Fr} {M M' : List OB} {V : View}
  (hg : guardC all lr o.guard = some []) (hv : memOf C.T (opd L lr) M o.op = some (none, M')) (hd : o.dst = none) {i : Nat} (hi : stAt (opd L lr) o.op = some i) (hk : wrOk i k = true)
  (h : Exec C ⟨.ops rest all lr :: k, L, M'⟩ V) : Exec C ⟨.ops (o :: rest) all lr :: k, L, M⟩ V := by
 refine Exec.of fun FR DF env t w h1 h2 h3 h4 h5 => ?_
 obtain ⟨env', w', j1, _, j3, k1, k2, k3, k5⟩ := memOf_sound hT h2 (opd_sound h3 h4) hv
 have hw := guard_sound h4 hg
 show wpList C.P ⟨all⟩ (post C FR DF k) (o :: rest) ⟨t, []⟩ w
 refine wpList_want ?_
 rw [if_pos (hw.2 trivial)]
 refine wp_skip' k5 ?_
 simp only [Act.put, hd]
 exact h.to FR DF env' t w' h1 k1 (k2 _ h3) (k3 _ h4) (by
  obtain ⟨i', b, q1, q2⟩ := j3 rfl
  have q3 : i = i' := Option.some.inj (hi.symm.trans q1)
  subst q3; subst q2
  exact DOk.grow (M := M.set i b) j1 (VLe.refl V) ⟨[], by simp⟩ (DOk.write (M := M) hk h5.same))
theorem stepOp_sound {o : Oper} {rest all : List Oper} {lr : List REnt} {k : List Kt} {L : Fr} {M : List OB} {V : View} {s' : St} (hs : stepOp C.T C.nt o rest all lr k L M = some s') (h : Exec C s' V) :
  Exec C ⟨.ops (o :: rest) all lr :: k, L, M⟩ V := by
 unfold stepOp at hs
 split at hs
 ·simp at hs
 ·rename_i hg
  split at hs
  ·rename_i v r hv
   split at hs <;> try (simp at hs; done)
   rename_i d hd
   split at hs <;> try (simp at hs; done)
   rename_i hn hf
   split at hs
   ·simp only [Option.some.injEq] at hs; subst hs
    exact Exec.val hT hg hv hd hn hf (.inl ⟨rfl, rfl⟩) h
   ·simp only [Option.some.injEq] at hs; subst hs
    exact Exec.val hT hg hv hd hn hf (.inl ⟨rfl, rfl⟩) h
  ·split at hs
   ·rename_i v M' hv
    split at hs <;> try (simp at hs; done)
    rename_i d hd
    split at hs <;> try (simp at hs; done)
    rename_i hn hf
    simp only [Option.some.injEq] at hs; subst hs
    exact Exec.mem hT hg hv hd hn hf h
   ·rename_i M' hv
    split at hs <;> try (simp at hs; done)
    rename_i hd hi
    split at hs <;> try (simp at hs; done)
    rename_i hk
    simp only [Option.some.injEq] at hs; subst hs
    exact Exec.mem0 hT hg hv hd hi hk h
   ·simp at hs
 ·rename_i G hG hg
  split at hs <;> try (simp at hs; done)
  rename_i v r hv
  split at hs <;> try (simp at hs; done)
  rename_i d hd
  split at hs <;> try (simp at hs; done)
  rename_i hn hf hl
  split at hs
  ·simp only [Option.some.injEq] at hs; subst hs
   exact Exec.val hT hg hv hd hn hf (.inr ⟨rfl, hl⟩) h
  ·simp only [Option.some.injEq] at hs; subst hs
   exact Exec.val hT hg hv hd hn hf (.inr ⟨rfl, hl⟩) h
theorem step_sound {s s' : St} {V : View} (hs : step C.T C.nt V s = some s') (h : Exec C s' V) : Exec C s V := by
 unfold step at hs
 split at hs
 ·exact Exec.of fun FR DF env t w h1 h2 h3 _ _ => wp_skip (toK_sound hs h h1 h2 h3 _)
 ·exact Exec.of fun FR DF env t w h1 h2 h3 _ _ => wp_label (toK_sound hs h h1 h2 h3 _)
 ·simp only [Option.some.injEq] at hs; subst hs
  exact Exec.of fun FR DF env t w h1 h2 h3 h4 _ => wp_seq (h.to FR .none env t w h1 h2 h3 h4 trivial)
 ·simp only [Option.some.injEq] at hs; subst hs
  exact Exec.of fun FR DF env t w h1 h2 h3 h4 _ => wp_block (h.to FR .none env t w h1 h2 h3 h4 trivial)
 ·split at hs
  ·rename_i k' hk
   exact Exec.of fun FR DF env t w h1 h2 h3 _ _ => wp_exit (exitK_sound hk (toK_sound hs h h1 h2 h3))
  ·simp at hs
 ·split at hs <;> try (simp at hs; done)
  rename_i hk
  simp only [Option.some.injEq] at hs; subst hs
  exact Exec.of fun FR DF env t w h1 h2 h3 h4 _ => wp_region_list (h.to FR .none env t w h1 h2 h3 (ROk.nil env _ t) (DOk.ops0 hk))
 ·exact Exec.of fun FR DF env t w h1 h2 h3 _ _ => toK_sound hs h h1 h2 h3 _
 ·simp only [Option.some.injEq] at hs; subst hs
  exact draw_relr (D := ⟨_, _, _, _, _, _, _, _, _⟩) h
 ·exact stepD_sound hT hs h
 ·exact Exec.of fun FR DF env t w h1 h2 h3 _ _ => toK_sound hs h h1 h2 h3 _
 ·exact stepOp_sound hT hs h
 ·simp at hs
theorem run_sound : ∀ (n : Nat) {s : St} {V : View}, Exec C (run C.T C.nt V n s) V → Exec C s V
 | 0, _, _, h => h
 | n + 1, s, V, h => by
  simp only [run] at h
  split at h
  ·rename_i s' hs
   exact step_sound hT hs (run_sound n h)
  ·exact h
theorem Exec.run (n : Nat) {s : St} {k : List Kt} {L : Fr} {M : List OB} {V : View} (hr : Go.Proofs.YtglnnhmmipopiaaGreat.run C.T C.nt V n s = ⟨k, L, M⟩) (h : Exec C ⟨k, L, M⟩ V) : Exec C s V :=
 run_sound hT n (by rw [hr]; exact h)
end
section
variable {C : Ctx}
theorem Exec.cond {c : Operand} {x y : Code} {k : List Kt} {L : Fr} {M : List OB} {V : View} {b : Bool} (hc : ev (opd L []) [] c = some (.v (.bool b)))
  (h1 : b = true → Exec C ⟨.code x :: k, L, M⟩ V) (h2 : b = false → Exec C ⟨.code y :: k, L, M⟩ V) : Exec C ⟨.code (.cond c x y) :: k, L, M⟩ V := by
 refine Exec.of fun FR DF env t w k1 k2 k3 k4 _ => ?_
 have he := ev_sound (opd_sound k3 (ROk.nil env _ t)) (G := []) trivial hc
 exact wp_cond_split he (fun hb => (h1 hb).to FR .none env t w k1 k2 k3 k4 trivial) (fun hb => (h2 hb).to FR .none env t w k1 k2 k3 k4 trivial)
theorem Exec.ifT {c : Operand} {x y : Code} {k : List Kt} {L : Fr} {M : List OB} {V : View} {b : Bool} (hc : ev (opd L []) [] c = some (.v (.bool b))) (hb : b = true)
  (h1 : Exec C ⟨.code x :: k, L, M⟩ V) : Exec C ⟨.code (.cond c x y) :: k, L, M⟩ V :=
 Exec.cond hc (fun _ => h1) (fun h => by rw [hb] at h; simp at h)
theorem Exec.ifF {c : Operand} {x y : Code} {k : List Kt} {L : Fr} {M : List OB} {V : View} {b : Bool} (hc : ev (opd L []) [] c = some (.v (.bool b))) (hb : b = false)
  (h1 : Exec C ⟨.code y :: k, L, M⟩ V) : Exec C ⟨.code (.cond c x y) :: k, L, M⟩ V :=
 Exec.cond hc (fun h => by rw [hb] at h; simp at h) (fun _ => h1)
def Sub : Fr → Fr → Prop
 | [], _ => True
 | (s, x) :: L', L => lookL L s = some x ∧ Sub L' L
theorem Sub.look {L : Fr} : ∀ {L' : Fr}, Sub L' L → ∀ s x, lookL L' s = some x → lookL L s = some x
 | [], _, s, x, h => by simp [lookL] at h
 | (n, y) :: L', hs, s, x, h => by
  rw [lookL_cons] at h
  split at h
  ·rename_i he
   simp only [Option.some.injEq] at h
   subst h; subst he
   exact hs.1
  ·exact Sub.look hs.2 s x h
theorem wp_loop_n {P : Program} {c : Code} {Q : Exit → Act → World → Prop} (J : Nat → Act → World → Prop)
  (round : ∀ n a w, J n a w → c.wp P (Exit.then (fun a' w' => ∃ m, m < n ∧ J m a' w') Q) a w) {n : Nat} {a : Act} {w : World} (h0 : J n a w) : (Code.loop c).wp P Q a w := by
 intro b k cs
 have key : ∀ n a w, J n a w → ∃ e a' w', Q e a' w' ∧ Arrives P (lone (b.at a (.code c :: .inLoop c :: k)) cs w) b k cs e a' w' := by
  intro n
  induction n using Nat.strongRecOn with
  | _ n ih =>
   intro a w hJ
   obtain ⟨e, a1, w1, hq, harr⟩ := round n a w hJ b (.inLoop c :: k) cs
   cases e with
   | normal =>
    obtain ⟨m, hlt, hJ1⟩ := hq
    obtain ⟨e2, a2, w2, hq2, harr2⟩ := ih m hlt a1 w1 hJ1
    exact ⟨e2, a2, w2, hq2, .of_steps (Steps.trans harr (.one step_inLoop)) harr2⟩
   | exit id => exact ⟨_, a1, w1, hq, .pass (x := .inLoop c) rfl (fun _ _ => .inl (by simp)) harr⟩
   | goto l => exact ⟨_, a1, w1, hq, .pass (x := .inLoop c) rfl (fun _ _ => .inl (by simp)) harr⟩
   | ret => exact ⟨_, a1, w1, hq, .pass (x := .inLoop c) rfl (fun _ _ => .inl (by simp)) harr⟩
   | panic ch => exact ⟨_, a1, w1, hq, .pass (x := .inLoop c) rfl (fun _ _ => .inl (by simp)) harr⟩
   | outgrown => exact ⟨_, a1, w1, hq, .pass (x := .inLoop c) rfl (fun _ _ => .inl (by simp)) harr⟩
 obtain ⟨e, a', w', hq, harr⟩ := key n a w h0
 exact ⟨e, a', w', hq, .of_steps (.one step_loop) harr⟩
theorem Exec.loop {c : Code} {k : List Kt} {L : Fr} {M : List OB} {V : View} (I : Nat → Fr → View → List OB → Prop)
  (h0 : ∃ n L', Sub L' L ∧ I n L' V M)
  (hr : ∀ n L V M, I n L V M → Exec C ⟨.code c :: .inLoop (fun L V M => ∃ m, m < n ∧ I m L V M) :: k, L, M⟩ V) : Exec C ⟨.code (.loop c) :: k, L, M⟩ V := by
 refine Exec.of fun FR DF env t w h1 h2 h3 _ _ => ?_
 obtain ⟨n, L', hs, hI⟩ := h0
 refine wp_loop_n (fun n a w => a.defers = [] ∧ a.tmps.size = C.nt ∧ ∃ env L V M, WOk C.V0 FR env V M w ∧ LOk env M L a.tmps ∧ I n L V M) ?_ (n := n)
  ⟨rfl, h1, env, L', V, M, h2, fun s x hx => h3 s x (hs.look s x hx), hI⟩
 rintro n ⟨t', d'⟩ w' ⟨hd, hsz, env', L1, V1, M1, k1, k2, k3⟩
 simp only at hd hsz k2
 subst hd
 have := (hr n L1 V1 M1 k3).to FR .none env' t' w' hsz k1 k2 (ROk.nil env' _ t') trivial
 refine wp_mono this fun e a2 w2 hp => ?_
 cases e with
 | normal =>
  obtain ⟨g1, g2, env2, L2, V2, M2, g3, g4, m, g5, g6⟩ := hp
  exact ⟨m, g5, g1, g2, env2, L2, V2, M2, g3, g4, g6⟩
 | exit id => exact hp
 | goto l => exact hp
 | ret => exact hp
 | panic ch => exact hp
 | outgrown => exact hp
theorem Exec.round {I : Fr → View → List OB → Prop} {k : List Kt} {L : Fr} {M : List OB} {V : View} (L' : Fr) (hs : Sub L' L) (h : I L' V M) : Exec C ⟨.inLoop I :: k, L, M⟩ V :=
 Exec.of fun _ _ env _ _ h1 h2 h3 _ _ => ⟨rfl, h1, env, L', V, M, h2, fun s x hx => h3 s x (hs.look s x hx), h⟩
theorem look_eq {L : Fr} {s : Nat} {x y : SV} (h : lookL L s = some x) (e : x = y) : lookL L s = some y := by rw [h, e]
theorem w64 {n : Int} (h : -9223372036854775808 ≤ n) (h' : n ≤ 9223372036854775807) : IntKind.i64.wrap n = n := by
 simp [IntKind.wrap_i64]
 omega
end
end Go.Proofs.YtglnnhmmipopiaaGreat

set_option linter.all false
namespace Go.Proofs.YtglnnhmmipopiaaGreat
def IsFn (P : Program) (f : Nat) : Prop := ∃ fn, P.funcs[f]? = some fn ∧ fn.body.isNone = false ∧ (fn.name == "runtime.NumGoroutine") = false
def Spec (P : Program) (f : Nat) (args : List Value) (V : View) (R : View → Value → Prop) : Prop :=
 IsFn P f ∧ ∀ w, Holds V w → Calls P f ⟨args⟩ w fun e w' => ∃ v V', e = .returned v ∧ Go.RowKit.Below w.heap.size w w' ∧ VLe V V' ∧ Holds V' w' ∧
  (∀ a x, V' a = some x → V a = some x ∨ w.heap.size ≤ a.block) ∧ R V' v
theorem Spec.mono {P : Program} {f : Nat} {args : List Value} {V : View} {R R' : View → Value → Prop} (h : Spec P f args V R) (hr : ∀ V' v, VLe V V' → R V' v → R' V' v) : Spec P f args V R' :=
 ⟨h.1, fun w hw => (h.2 w hw).mono fun _ _ ⟨v, V', h1, h2, h3, h4, h5, h6⟩ => ⟨v, V', h1, h2, h3, h4, h5, hr V' v h3 h6⟩⟩
def argFr : Nat → List Value → Fr
 | _, [] => []
 | i, v :: vs => (i, .v v) :: argFr (i + 1) vs
theorem argFr_look : ∀ (vs : List Value) (i s : Nat) (x : SV), lookL (argFr i vs) s = some x → ∃ v, x = .v v ∧ i ≤ s ∧ vs[s - i]? = some v
 | [], i, s, x, h => by simp [argFr, lookL] at h
 | v :: vs, i, s, x, h => by
  simp only [argFr] at h
  rw [lookL_cons] at h
  split at h
  ·rename_i he
   simp only [Option.some.injEq] at h
   subst h; subst he
   exact ⟨v, rfl, Nat.le_refl _, by simp⟩
  ·rename_i he
   obtain ⟨y, h1, h2, h3⟩ := argFr_look vs (i + 1) s x h
   refine ⟨y, h1, by omega, ?_⟩
   rw [show s - i = (s - (i + 1)) + 1 by omega]
   simpa using h3
theorem Spec.enter {P : Program} {T : List TyD} {f nt : Nat} {fn : Func} {c : Code} {args : List Value} {V : View} {R : View → Value → Prop} {L : Fr}
  (hf : P.funcs[f]? = some fn) (hb : fn.body = some c) (hname : (fn.name == "runtime.NumGoroutine") = false) (hnt : fn.ntmps = nt) (hlen : Nat.ble args.length nt = true) (hL : argFr 0 args = L)
  (h : Exec ⟨P, T, fn, nt, V, fun V v _ => R V v⟩ ⟨[.code c], L, []⟩ V) : Spec P f args V R := by
 refine ⟨⟨fn, hf, by rw [hb]; rfl, hname⟩, fun w hw => ?_⟩
 let FR : Frm := ⟨w.os, w.tape, w.output, fun b => w.heap[b]?⟩
 have hWOk : WOk V FR [] V [] w := ⟨rfl, rfl, rfl, fun _ _ h => h, VLe.refl V, hw, fun _ _ h => .inl h, rfl, fun i o h => by simp at h, fun i o a h => by simp at h, fun i o a h => by simp at h, fun i j o o' a _ h => by simp at h⟩
 have hle := Nat.le_of_ble_eq_true hlen
 have hcall := calls_of_wp (P := P) (f := f) (args := ⟨args⟩) (w := w) (R := endP ⟨P, T, fn, nt, V, fun V v _ => R V v⟩ FR) hf hb (by
  refine h.to0 (k := [.code c]) rfl (FR := FR) (env := []) (t := (⟨args⟩ : Array Value) ++ Array.replicate (fn.ntmps - args.length) undef) ?_ hWOk ?_ .none
  ·simp [hnt]; omega
  ·intro s x hx
   rw [← hL] at hx
   obtain ⟨v, rfl, _, h2⟩ := argFr_look args 0 s x hx
   refine ⟨?_, trivial⟩
   have hs : s < args.length := (List.getElem?_eq_some_iff.1 h2).1
   rw [Array.getElem?_append]
   simpa [hs, den] using h2)
 refine hcall.mono fun e w' hp => ?_
 obtain ⟨v, env', V', M', h1, hW', h9⟩ := hp
 have h2 := hW'.os; have h3 := hW'.tape; have h4 := hW'.output; have h5 := hW'.frame; have h6 := hW'.le; have h7 := hW'.holds; have h8 := hW'.fresh
 have hblk : ∀ k, k < w.heap.size → w'.heap[k]? = w.heap[k]? := fun k hk => by
  have : w.heap[k]? = some w.heap[k] := by simp [hk]
  rw [this]
  exact h5 k _ this
 refine ⟨v, V', h1, ⟨h2, h3, h4, ?_, hblk⟩, h6, h7, fun a x hx => ?_, h9⟩
 ·rcases Nat.eq_zero_or_pos w.heap.size with h0 | h0
  ·omega
  ·have := hblk (w.heap.size - 1) (by omega)
   have h1 : w.heap[w.heap.size - 1]? = some w.heap[w.heap.size - 1] := by simp [h0]
   rw [h1] at this
   have := (Array.getElem?_eq_some_iff.1 this).1
   omega
 ·rcases h8 a x hx with h | h
  ·exact .inl h
  ·right
   refine Nat.le_of_not_lt fun hl => ?_
   have : w.heap[a.block]? = none := h
   simp at this
   omega
def resV (T : List TyD) (L : Fr) (M : List OB) : List ResultVar → Option (List Value)
 | [] => some []
 | .tmp s :: r => match lookL L s with
  | some (.v x) => match resV T L M r with
   | some l => some (x :: l)
   | none => none
  | _ => none
 | .cell s t :: r => match lookL L s with
  | some (.ptr i o) => match nth M i, nth T t with
   | some (.blk cs _), some d => match d.size with
    | 0 => none
    | _ + 1 => match loadSV d cs o with
     | some (.v x) => match resV T L M r with
      | some l => some (x :: l)
      | none => none
     | _ => none
   | _, _ => none
  | _ => none
def retV : List Value → Value
 | [x] => x
 | l => .tuple ⟨l⟩
def resM (t : Array Value) : ResultVar → Sem Value
 | .tmp s => pure (t.getD s undef)
 | .cell a ty => do loadVar ty (← asAddr (t.getD a undef))
theorem resV_sound {P : Program} {T : List TyD} (hT : TOk P T) {V0 V : View} {FR : Frm} {env : List Nat} {L : Fr} {M : List OB} {t : Array Value} {w : World} (hW : WOk V0 FR env V M w) (hL : LOk env M L t) :
  ∀ (rs : List ResultVar) (vs : List Value), resV T L M rs = some vs → (rs.mapM (resM t)).run P w = .ok vs w
 | [], vs, h => by simp only [resV, Option.some.injEq] at h; subst h; simp
 | .tmp s :: r, vs, h => by
  simp only [resV] at h
  split at h <;> try (simp at h; done)
  rename_i x hx
  split at h <;> try (simp at h; done)
  rename_i l hl
  simp only [Option.some.injEq] at h; subst h
  have ih := resV_sound hT hW hL r l hl
  obtain ⟨h1, _⟩ := hL s _ hx
  have h2 : t.getD s undef = x := by simp [h1, den]
  simp only [List.mapM_cons, resM, Sem.run_bind, Sem.run_pure, Result.andThen_ok, ih, h2]
 | .cell s ty :: r, vs, h => by
  simp only [resV] at h
  split at h <;> try (simp at h; done)
  rename_i i o hx
  split at h <;> try (simp at h; done)
  rename_i cs ty' d hM hd
  split at h <;> try (simp at h; done)
  rename_i n hsz
  split at h <;> try (simp at h; done)
  rename_i x hld
  split at h <;> try (simp at h; done)
  rename_i l hl
  simp only [Option.some.injEq] at h; subst h
  have ih := resV_sound hT hW hL r l hl
  obtain ⟨h1, _⟩ := hL s _ hx
  have h2 : t.getD s undef = .pointer (some ⟨envAt env i, o, none⟩) := by simp [h1, den]
  rw [nth_eq] at hM
  have h3 := run_loadSV hT (hW.sat i _ hM).1 hd (by omega) hld
  have h4 : (asAddr (t.getD s undef)).run P w = .ok ⟨envAt env i, o, none⟩ w := by rw [h2]; rfl
  simp only [List.mapM_cons, resM, Sem.run_bind, h4, Sem.run_pure, Result.andThen_ok, h3, ih, den]
theorem Exec.retAt {C : Ctx} (hT : TOk C.P C.T) {L : Fr} {M : List OB} {V : View} {rs : List ResultVar} {vs : List Value} (hres : C.fn.results = ⟨rs⟩) (hv : resV C.T L M rs = some vs) (hR : C.R V (retV vs) M)
  {FR : Frm} {env : List Nat} {t : Array Value} {w : World} (h2 : WOk C.V0 FR env V M w) (h3 : LOk env M L t) : (results C.fn t).run C.P w = .ok (retV vs) w ∧ endP C FR (.returned (retV vs)) w := by
 refine ⟨?_, retV vs, env, V, M, rfl, h2, hR⟩
 have := resV_sound hT h2 h3 rs vs hv
 have hr : results C.fn t = (⟨rs⟩ : Array ResultVar).mapM (resM t) >>= fun vs => (pure (if h : vs.size = 1 then vs[0] else .tuple vs) : Sem Value) := by
  unfold results
  rw [hres]
  rfl
 rw [hr, List.mapM_toArray]
 simp only [Sem.run_bind, Sem.run_map, this, Result.andThen_ok, Sem.run_pure]
 congr 1
 match vs with
 | [] => rfl
 | [x] => simp [retV]
 | x :: y :: l => simp [retV]
theorem Exec.ret {C : Ctx} (hT : TOk C.P C.T) {k : List Kt} {L : Fr} {M : List OB} {V : View} {rs : List ResultVar} {vs : List Value} (hres : C.fn.results = ⟨rs⟩) (hv : resV C.T L M rs = some vs) (hR : C.R V (retV vs) M) :
  Exec C ⟨.code .ret :: k, L, M⟩ V := by
 refine Exec.of fun FR DF env t w h1 h2 h3 _ _ => wp_ret ?_
 obtain ⟨k1, k2⟩ := Exec.retAt hT hres hv hR h2 h3
 exact ret_sound ⟨rfl, _, k1, k2⟩ k _
theorem Exec.fall {C : Ctx} (hT : TOk C.P C.T) {L : Fr} {M : List OB} {V : View} {rs : List ResultVar} {vs : List Value} (hres : C.fn.results = ⟨rs⟩) (hv : resV C.T L M rs = some vs) (hR : C.R V (retV vs) M) :
  Exec C ⟨[], L, M⟩ V := by
 refine Exec.of fun FR DF env t w h1 h2 h3 _ _ => ?_
 obtain ⟨k1, k2⟩ := Exec.retAt hT hres hv hR h2 h3
 exact ⟨rfl, _, k1, k2⟩

/-! ### Conditions of a guarded operation -/
def Imp (lr : List REnt) : List (Nat × Bool) → Prop → Prop
 | [], p => p
 | (r, b) :: G, p => match lookR lr r with
  | some ⟨_, _, .v (.bool x), _⟩ => x = b → Imp lr G p
  | _ => Imp lr G p
theorem Imp.out {env : List Nat} {M : List OB} {lr : List REnt} {t : Array Value} (hR : ROk env M lr t) {p : Prop} : ∀ {G : List (Nat × Bool)}, condT t G → Imp lr G p → p
 | [], _, h => h
 | (r, b) :: G, hc, h => by
  simp only [Imp] at h
  split at h
  ·rename_i s c x r' he
   obtain ⟨h1, h2, h3⟩ := hR r _ he
   have hcc : condT t c := by
    refine Classical.byContradiction fun hn => ?_
    have := h2 hn
    rw [hc.1] at this
    simp [undef] at this
   have := (h1 hcc).1
   rw [hc.1] at this
   simp only [den, Option.some.injEq, Value.bool.injEq] at this
   exact Imp.out hR hc.2 (h this.symm)
  ·exact Imp.out hR hc.2 h
def headOf (nt : Nat) (all : List Oper) (lr : List REnt) (L : Fr) (o : Oper) : Option (List (Nat × Bool) × Nat) :=
 match guardC all lr o.guard with
 | some [] => match o.dst with
  | some d => match Nat.blt d nt, freshR d lr with
   | true, true => some ([], d)
   | _, _ => none
  | none => none
 | some (g :: G) => match o.dst with
  | some d => match Nat.blt d nt, freshR d lr, lookL L d with
   | true, true, none => some (g :: G, d)
   | _, _, _ => none
  | none => none
 | none => none
def nextL (G : List (Nat × Bool)) (d : Nat) (x : SV) (L : Fr) : Fr :=
 match G with
 | [] => (d, x) :: L
 | _ => L
theorem headOf_some {nt : Nat} {all : List Oper} {lr : List REnt} {L : Fr} {o : Oper} {G : List (Nat × Bool)} {d : Nat} (h : headOf nt all lr L o = some (G, d)) :
  guardC all lr o.guard = some G ∧ o.dst = some d ∧ Nat.blt d nt = true ∧ freshR d lr = true ∧ (G = [] ∨ (G ≠ [] ∧ lookL L d = none)) := by
 unfold headOf at h
 split at h <;> try (simp at h; done)
 ·rename_i hg
  split at h <;> try (simp at h; done)
  rename_i d' hd
  split at h <;> try (simp at h; done)
  rename_i hn hf
  simp only [Option.some.injEq, Prod.mk.injEq] at h
  obtain ⟨rfl, rfl⟩ := h
  exact ⟨hg, hd, hn, hf, .inl rfl⟩
 ·rename_i g G' hg
  split at h <;> try (simp at h; done)
  rename_i d' hd
  split at h <;> try (simp at h; done)
  rename_i hn hf hl
  simp only [Option.some.injEq, Prod.mk.injEq] at h
  obtain ⟨rfl, rfl⟩ := h
  exact ⟨hg, hd, hn, hf, .inr ⟨by simp, hl⟩⟩
theorem Exec.yields {C : Ctx} {o : Oper} {rest all : List Oper} {lr : List REnt} {k : List Kt} {L : Fr} {M : List OB} {V : View} {G : List (Nat × Bool)} {x : SV} {d : Nat}
  (hh : headOf C.nt all lr L o = some (G, d))
  (hy : ∀ FR env t w, WOk C.V0 FR env V M w → LOk env M L t → ROk env M lr t → condT t G → x.ok M ∧
   ∀ K Q, (∀ w', WOk C.V0 FR env V M w' → K (({ tmps := t, defers := [] } : Act).put o.dst (den env x)) w') → o.wp C.P ⟨t, []⟩ w K Q)
  (h : Exec C ⟨.ops rest all (⟨d, G, x, d⟩ :: lr) :: k, nextL G d x L, M⟩ V) : Exec C ⟨.ops (o :: rest) all lr :: k, L, M⟩ V := by
 refine Exec.of fun FR DF env t w h1 h2 h3 h4 h5 => ?_
 obtain ⟨hg, hd, hn, hf, hGL⟩ := headOf_some hh
 have hdt : d < t.size := by rw [h1]; simpa [Nat.blt_eq] using hn
 have hw := guard_sound h4 hg
 have fin : ∀ u w', WOk C.V0 FR env V M w' → ((condT t G → u = den env x ∧ x.ok M) ∧ (¬ condT t G → u = undef)) → post C FR DF (.ops rest all (⟨d, G, x, d⟩ :: lr) :: k) .normal ⟨t.setIfInBounds d u, []⟩ w' := by
  intro u w' hw' hu
  refine h.to FR DF env _ w' (by simpa using h1) hw' ?_ (h4.put hdt hf (fun hc => (hu.1 hc).1) hu.2 (guard_fresh hg hf) (.inl rfl) (fun hc => (hu.1 hc).2)) h5.same
  rcases hGL with rfl | ⟨hne, hnone⟩
  ·rw [(hu.1 trivial).1]
   exact h3.put hdt (hu.1 trivial).2
  ·cases G with
   | nil => exact absurd rfl hne
   | cons g G => exact h3.put_new hnone u
 show wpList C.P ⟨all⟩ (post C FR DF k) (o :: rest) ⟨t, []⟩ w
 refine wpList_want ?_
 by_cases hc : condT t G
 ·rw [if_pos (hw.2 hc)]
  obtain ⟨k2, k4⟩ := hy FR env t w h2 h3 h4 hc
  refine k4 _ _ fun w' k3 => ?_
  simp only [Act.put, hd]
  exact fin _ w' k3 ⟨fun _ => ⟨rfl, k2⟩, fun hn => absurd hc hn⟩
 ·rw [if_neg (fun e => hc (hw.1 e))]
  simp only [Act.put, hd]
  exact fin undef w h2 ⟨fun e => absurd e hc, fun _ => rfl⟩
end Go.Proofs.YtglnnhmmipopiaaGreat

set_option linter.all false
namespace Go.Proofs.YtglnnhmmipopiaaGreat
def appV : List Value → List Value → Option (List Value)
 | [], l => some l
 | a :: r, l => match appV r l with
  | some q => some (a :: q)
  | none => none
theorem appV_sound : ∀ {a b r : List Value}, appV a b = some r → r = a ++ b
 | [], b, r, h => by simp only [appV, Option.some.injEq] at h; simp [h]
 | x :: a, b, r, h => by
  simp only [appV] at h
  split at h
  ·rename_i q hq
   simp only [Option.some.injEq] at h; subst h
   simp [appV_sound hq]
  ·simp at h
def evs (od : Look) (G : List (Nat × Bool)) : List Operand → Option (List Value)
 | [] => some []
 | x :: l => match ev od G x with
  | some (.v a) => match evs od G l with
   | some r => some (a :: r)
   | none => none
  | _ => none
theorem evs_sound {env : List Nat} {M : List OB} {t : Array Value} {od : Look} (hO : Tells env M t od) {G : List (Nat × Bool)} (hG : condT t G) :
  ∀ {as : List Operand} {args : List Value}, evs od G as = some args → as.map (⟨t, []⟩ : Act).eval = args
 | [], args, h => by simp only [evs, Option.some.injEq] at h; simp [h]
 | x :: l, args, h => by
  simp only [evs] at h
  split at h <;> try (simp at h; done)
  rename_i a ha
  split at h <;> try (simp at h; done)
  rename_i r hr
  simp only [Option.some.injEq] at h; subst h
  rw [List.map_cons, ev_sound hO hG ha, evs_sound hO hG hr]
  rfl
def callOf (od : Look) (G : List (Nat × Bool)) (op : Op) : Option (Nat × List Value) :=
 match op with
 | .call ⟨.value fx, ⟨as⟩, _⟩ => match ev od G fx with
  | some (.v (.func (.func f) ⟨fi⟩ ⟨ca⟩)) => match evs od G as with
   | some args => match appV fi args with
    | some a1 => match appV a1 ca with
     | some full => some (f, full)
     | none => none
    | none => none
   | none => none
  | _ => none
 | _ => none
theorem callOf_wp {P : Program} {env : List Nat} {M : List OB} {t : Array Value} {od : Look} (hO : Tells env M t od) {G : List (Nat × Bool)} (hG : condT t G) {o : Oper} {f : Nat} {args : List Value}
  (h : callOf od G o.op = some (f, args)) (hf : IsFn P f) (w : World) : (execOp (⟨t, []⟩ : Act).eval o).run P w = .ok (.enter f ⟨args⟩) w := by
 unfold callOf at h
 split at h <;> try (simp at h; done)
 rename_i fx as tys hop
 split at h <;> try (simp at h; done)
 rename_i f' fi ca hfx
 split at h <;> try (simp at h; done)
 rename_i args' has
 split at h <;> try (simp at h; done)
 rename_i a1 ha1
 split at h <;> try (simp at h; done)
 rename_i full hfull
 simp only [Option.some.injEq, Prod.mk.injEq] at h
 obtain ⟨rfl, rfl⟩ := h
 obtain ⟨fn, h1, h2, h3⟩ := hf
 have e1 := ev_sound hO hG hfx
 have e2 := evs_sound hO hG has
 have e3 := appV_sound ha1
 have e4 := appV_sound hfull
 unfold execOp
 simp only [hop, resolve, e1, den, Deferred.ofValue, Sem.run_bind, Sem.run_pure, Result.andThen_ok, invoke, callFunc, run_program, h1, h3, Bool.false_eq_true, if_false, h2]
 congr 2
 apply Array.ext'
 simp [e4, e3, ← e2]
section
variable {C : Ctx} (hT : TOk C.P C.T)
theorem Exec.callS {o : Oper} {rest all : List Oper} {lr : List REnt} {k : List Kt} {L : Fr} {M : List OB} {V : View} {G : List (Nat × Bool)} {d f : Nat} {args : List Value} (x : Value)
  (hh : headOf C.nt all lr L o = some (G, d)) (hc : callOf (opd L lr) G o.op = some (f, args)) (hs : Imp lr G (Spec C.P f args V fun _ v => v = x))
  (h : Exec C ⟨.ops rest all (⟨d, G, .v x, d⟩ :: lr) :: k, nextL G d (.v x) L, M⟩ V) : Exec C ⟨.ops (o :: rest) all lr :: k, L, M⟩ V := by
 refine Exec.yields (x := .v x) hh (fun FR env t w h2 h3 h4 hG => ⟨trivial, fun K Q hK => ?_⟩) h
 obtain ⟨hfn, hcall⟩ := hs.out h4 hG
 unfold Oper.wp
 rw [callOf_wp (opd_sound h3 h4) hG hc hfn w]
 refine (hcall w h2.holds).mono fun e w' ⟨v, V', p1, p2, p3, p4, p5, p6⟩ => ?_
 subst p1; subst p6
 refine hK w' ?_
 have hlt : ∀ b o, FR.blk b = some o → b < w.heap.size := fun b o ho => (Array.getElem?_eq_some_iff.1 (h2.frame b o ho)).1
 refine ⟨p2.os.trans h2.os, p2.tape.trans h2.tape, p2.output.trans h2.output, fun b o ho => by rw [p2.block b (hlt b o ho)]; exact h2.frame b o ho, h2.le, fun a y hy => p4 a y (p3 a y hy), h2.fresh, h2.len, ?_, h2.apartV, h2.apartF, h2.apart⟩
 intro i ob hob
 have hs := h2.sat i ob hob
 cases ob with
 | gone => trivial
 | blk cs ty => exact ⟨by rw [p2.block _ (Array.getElem?_eq_some_iff.1 hs.1).1]; exact hs.1, hs.2⟩
 | row y cs e sz => exact rowSat_of hs fun g hg => p2.block _ (OB.own_lt (env := env) (M := M) (b := 0) (o := .row y cs e sz) hs (a := ⟨g, 0, none⟩) hg)
theorem Exec.call {o : Oper} {rest all : List Oper} {lr : List REnt} {k : List Kt} {L : Fr} {M : List OB} {V : View} {d f : Nat} {args : List Value} {R : View → Value → Prop}
  (hh : headOf C.nt all lr L o = some ([], d)) (hc : callOf (opd L lr) [] o.op = some (f, args)) (hs : Spec C.P f args V R)
  (h : ∀ V' v, VLe V V' → R V' v → Exec C ⟨.ops rest all (⟨d, [], .v v, d⟩ :: lr) :: k, (d, .v v) :: L, M⟩ V') : Exec C ⟨.ops (o :: rest) all lr :: k, L, M⟩ V := by
 refine Exec.of fun FR DF env t w h1 h2 h3 h4 h5 => ?_
 obtain ⟨hg, hd, hn, hf, _⟩ := headOf_some hh
 have hdt : d < t.size := by rw [h1]; simpa [Nat.blt_eq] using hn
 have hw := guard_sound h4 hg
 show wpList C.P ⟨all⟩ (post C FR DF k) (o :: rest) ⟨t, []⟩ w
 refine wpList_want ?_
 rw [if_pos (hw.2 trivial)]
 obtain ⟨hfn, hcall⟩ := hs
 unfold Oper.wp
 rw [callOf_wp (opd_sound h3 h4) (G := []) trivial hc hfn w]
 refine (hcall w h2.holds).mono fun e w' ⟨v, V', p1, p2, p3, p4, p5, p6⟩ => ?_
 subst p1
 have hlt : ∀ b o, FR.blk b = some o → b < w.heap.size := fun b o ho => (Array.getElem?_eq_some_iff.1 (h2.frame b o ho)).1
 have hW' : WOk C.V0 FR env V' M w' := by
  refine ⟨p2.os.trans h2.os, p2.tape.trans h2.tape, p2.output.trans h2.output, fun b o ho => by rw [p2.block b (hlt b o ho)]; exact h2.frame b o ho, h2.le.trans p3, p4, ?_, h2.len, ?_, ?_, h2.apartF, h2.apart⟩
  ·intro a y hy
   rcases p5 a y hy with hy | hy
   ·exact h2.fresh a y hy
   ·right
    cases hb : FR.blk a.block with
    | none => rfl
    | some o => have := hlt _ o hb; omega
  ·intro i ob hob
   have hs := h2.sat i ob hob
   cases ob with
   | gone => trivial
   | blk cs ty => exact ⟨by rw [p2.block _ (Array.getElem?_eq_some_iff.1 hs.1).1]; exact hs.1, hs.2⟩
   | row y cs e sz => exact rowSat_of hs fun g hg => p2.block _ (OB.own_lt (env := env) (M := M) (b := 0) (o := .row y cs e sz) hs (a := ⟨g, 0, none⟩) hg)
  ·intro i ob a hob ha
   have := OB.own_lt (h2.sat i ob hob) ha
   cases hv : V' a with
   | none => rfl
   | some y =>
    rcases p5 a y hv with hy | hy
    ·rw [h2.apartV i ob a hob ha] at hy; simp at hy
    ·omega
 simp only [Act.put, hd]
 exact (h V' v p3 p6).to FR DF env (t.setIfInBounds d v) w' (by simpa using h1) hW' (h3.put (x := .v v) hdt trivial) (h4.put hdt hf (fun _ => rfl) (fun hn => absurd trivial hn) rfl (.inl rfl) (fun _ => trivial)) (DOk.grow ⟨[], by simp⟩ p3 ⟨[], by simp⟩ h5.same)

/-! ### Strings by index -/
def byteAt (l : List UInt8) (n : Nat) : Int := ((l[n]?.getD 0).toNat : Int)
def idxOf (T : List TyD) (od : Look) (G : List (Nat × Bool)) (op : Op) : Option (List UInt8 × Int) :=
 match op with
 | .index t x i => match nth T t with
  | some d => match d.size, d.und with
   | _ + 1, .str => match ev od G x, ev od G i with
    | some (.v (.string ⟨⟨l⟩⟩)), some (.v (.int _ n)) => some (l, n)
    | _, _ => none
   | _, _ => none
  | none => none
 | _ => none
include hT in
theorem Exec.idx {o : Oper} {rest all : List Oper} {lr : List REnt} {k : List Kt} {L : Fr} {M : List OB} {V : View} {G : List (Nat × Bool)} {d : Nat} {l : List UInt8} {n : Int}
  (hh : headOf C.nt all lr L o = some (G, d)) (hc : idxOf C.T (opd L lr) G o.op = some (l, n)) (hb : Imp lr G (0 ≤ n ∧ n < l.length))
  (h : Exec C ⟨.ops rest all (⟨d, G, .v (.int .u8 (byteAt l n.toNat)), d⟩ :: lr) :: k, nextL G d (.v (.int .u8 (byteAt l n.toNat))) L, M⟩ V) : Exec C ⟨.ops (o :: rest) all lr :: k, L, M⟩ V := by
 refine Exec.yields (x := .v (.int .u8 (byteAt l n.toNat))) hh (fun FR env t w h2 h3 h4 hG => ⟨trivial, fun K Q hK => ?_⟩) h
 obtain ⟨b1, b2⟩ := hb.out h4 hG
 unfold idxOf at hc
 split at hc <;> try (simp at hc; done)
 rename_i ty x i hop
 split at hc <;> try (simp at hc; done)
 rename_i dd hd
 split at hc <;> try (simp at hc; done)
 rename_i m hsz hu
 split at hc <;> try (simp at hc; done)
 rename_i l' k' n' hx hi
 simp only [Option.some.injEq, Prod.mk.injEq] at hc
 obtain ⟨rfl, rfl⟩ := hc
 refine wp_value ?_ (hK w h2)
 have hlt : n'.toNat < l'.length := by omega
 have e1 : ((⟨⟨l'⟩⟩ : ByteArray)[n'.toNat]? : Option UInt8) = some (l'[n'.toNat]'hlt) := by
  have : n'.toNat < (⟨⟨l'⟩⟩ : ByteArray).size := hlt
  rw [getElem?_pos (⟨⟨l'⟩⟩ : ByteArray) n'.toNat this]
  rfl
 unfold execOp
 simp only [hop, ev_sound (opd_sound h3 h4) hG hx, ev_sound (opd_sound h3 h4) hG hi, den, Instr.index, asIntOf, Sem.run_bind, Sem.run_pure, Result.andThen_ok, run_underlying (t_str hT hd (by omega) hu), if_pos b1, e1]
 simp [byteAt, hlt]

/-! ### Elements of slices -/
def RdAt (V : View) (a : Option Addr) (off : Nat) (cs : List Value) : Prop := ∃ b o, a = some ⟨b, o, none⟩ ∧ ∀ j c, cs[j]? = some c → V ⟨b, o + off + j, none⟩ = some c
theorem RdAt.mono {V V' : View} {a : Option Addr} {off : Nat} {cs : List Value} (h : RdAt V a off cs) (hv : VLe V V') : RdAt V' a off cs := by
 obtain ⟨b, o, h1, h2⟩ := h
 exact ⟨b, o, h1, fun j c hj => hv _ _ (h2 j c hj)⟩
def iaOf (T : List TyD) (od : Look) (G : List (Nat × Bool)) (op : Op) : Option (Option Addr × Nat × Int × Nat) :=
 match op with
 | .indexAddr t x i => match nth T t with
  | some d => match d.size, d.und with
   | _ + 1, .slice e => match nth T e with
    | some ed => match ed.size with
     | 0 => none
     | sz + 1 => match ev od G x, ev od G i with
      | some (.v (.slice a len _)), some (.v (.int _ n)) => some (a, len, n, sz + 1)
      | _, _ => none
    | none => none
   | _, _ => none
  | none => none
 | _ => none
include hT in
theorem Exec.ia {o : Oper} {rest all : List Oper} {lr : List REnt} {k : List Kt} {L : Fr} {M : List OB} {V : View} {G : List (Nat × Bool)} {d : Nat} {a : Option Addr} {len sz : Nat} {n : Int}
  (hh : headOf C.nt all lr L o = some (G, d)) (hc : iaOf C.T (opd L lr) G o.op = some (a, len, n, sz)) (hb : Imp lr G (0 ≤ n ∧ n < len ∧ ∃ b o, a = some ⟨b, o, none⟩))
  (h : Exec C ⟨.ops rest all (⟨d, G, .el a (n.toNat * sz), d⟩ :: lr) :: k, nextL G d (.el a (n.toNat * sz)) L, M⟩ V) : Exec C ⟨.ops (o :: rest) all lr :: k, L, M⟩ V := by
 refine Exec.yields hh (fun FR env t w h2 h3 h4 hG => ?_) h
 obtain ⟨b1, b2, b, o', rfl⟩ := hb.out h4 hG
 refine ⟨⟨b, o', rfl⟩, fun K Q hK => ?_⟩
 unfold iaOf at hc
 split at hc <;> try (simp at hc; done)
 rename_i ty x i hop
 split at hc <;> try (simp at hc; done)
 rename_i dd hd
 split at hc <;> try (simp at hc; done)
 rename_i m e hsz hu
 split at hc <;> try (simp at hc; done)
 rename_i ed hed
 split at hc <;> try (simp at hc; done)
 rename_i sz' hesz
 split at hc <;> try (simp at hc; done)
 rename_i a' len' cap' k' n' hx hi
 simp only [Option.some.injEq, Prod.mk.injEq] at hc
 obtain ⟨rfl, rfl, rfl, rfl⟩ := hc
 refine wp_value ?_ (hK w h2)
 unfold execOp
 simp only [hop, ev_sound (opd_sound h3 h4) hG hx, ev_sound (opd_sound h3 h4) hG hi, den, Instr.indexAt, asIntOf, Sem.run_bind, Sem.run_pure, Result.andThen_ok, run_underlying (t_slice hT hd (by omega) hu)]
 rw [if_pos ⟨b1, b2⟩]
 simp only [Sem.run_bind, t_size hT w hed (by omega), Result.andThen_ok, Sem.run_pure, hesz]
 simp [Addr.add_lit]
def ldOf (T : List TyD) (od : Look) (G : List (Nat × Bool)) (op : Op) : Option (Option Addr × Nat × TyD) :=
 match op with
 | .load t x => match nth T t with
  | some d => match d.size with
   | 0 => none
   | _ + 1 => match ev od G x with
    | some (.el a off) => some (a, off, d)
    | some (.v (.pointer a)) => some (a, 0, d)
    | _ => none
  | none => none
 | _ => none
def cellsVal (agg : Bool) (cs : List Value) : Value :=
 match agg with
 | true => .agg ⟨cs⟩
 | false => match cs with
  | c :: _ => c
  | [] => undef
include hT in
theorem ld_runC {env : List Nat} {M : List OB} {t : Array Value} {od : Look} (hO : Tells env M t od) {G : List (Nat × Bool)} (hG : condT t G) {o : Oper} {a : Option Addr} {off : Nat} {dd : TyD} {cs : List Value} {x : Value}
  (hc : ldOf C.T od G o.op = some (a, off, dd)) {b o' : Nat} (ha : a = some ⟨b, o', none⟩) {w : World} (hcell : ∀ j v, cs[j]? = some v → w.cell? ⟨b, o' + off + j, none⟩ = some v)
  (hsz : cs.length = dd.size) (hx : cellsVal dd.und.agg cs = x) : (execOp (⟨t, []⟩ : Act).eval o).run C.P w = .ok (.value x) w := by
 subst ha
 unfold ldOf at hc
 split at hc <;> try (simp at hc; done)
 rename_i ty y hop
 split at hc <;> try (simp at hc; done)
 rename_i d' hd
 split at hc <;> try (simp at hc; done)
 rename_i m hs
 have fin : ∀ off', off' = off → d' = dd → (⟨t, []⟩ : Act).eval y = .pointer (some ⟨b, o' + off', none⟩) → (execOp (⟨t, []⟩ : Act).eval o).run C.P w = .ok (.value x) w := by
  rintro off' rfl rfl hy'
  have hload := run_loadCells_list (P := C.P) w ⟨b, o' + off', none⟩ cs (fun j v hv => by
   rw [Addr.add_lit]
   exact hcell j v hv)
  unfold execOp
  simp only [hop, hy', Instr.loadAt, Instr.sureAddr, loadVar, Sem.run_bind, Sem.run_pure, Result.andThen_ok, t_agg hT w hd (by omega)]
  unfold cellsVal at hx
  cases hag : d'.und.agg with
  | true =>
   rw [hag] at hx
   rw [hsz] at hload
   simp only [if_true, Sem.run_bind, t_size hT w hd (by omega), Result.andThen_ok, hload, Sem.run_pure, ← hx]
  | false =>
   rw [hag] at hx
   cases cs with
   | nil => simp at hsz; omega
   | cons c cs =>
    have hcell := hcell 0 c rfl
    simp only [Nat.add_zero] at hcell
    simp only at hx
    subst hx
    simp only [Bool.false_eq_true, if_false, run_load, hcell]
    rfl
 split at hc <;> try (simp at hc; done)
 ·rename_i a' off' hy
  simp only [Option.some.injEq, Prod.mk.injEq] at hc
  obtain ⟨rfl, rfl, rfl⟩ := hc
  exact fin _ rfl rfl (by rw [ev_sound hO hG hy]; rfl)
 ·rename_i a' hy
  simp only [Option.some.injEq, Prod.mk.injEq] at hc
  obtain ⟨rfl, rfl, rfl⟩ := hc
  exact fin _ rfl rfl (by rw [ev_sound hO hG hy]; rfl)
include hT in
theorem Exec.ld {o : Oper} {rest all : List Oper} {lr : List REnt} {k : List Kt} {L : Fr} {M : List OB} {V : View} {G : List (Nat × Bool)} {d : Nat} {a : Option Addr} {off : Nat} {dd : TyD} {cs : List Value} {x : Value}
  (hh : headOf C.nt all lr L o = some (G, d)) (hc : ldOf C.T (opd L lr) G o.op = some (a, off, dd)) (hb : Imp lr G (RdAt V a off cs)) (hsz : cs.length = dd.size) (hx : cellsVal dd.und.agg cs = x)
  (h : Exec C ⟨.ops rest all (⟨d, G, .v x, d⟩ :: lr) :: k, nextL G d (.v x) L, M⟩ V) : Exec C ⟨.ops (o :: rest) all lr :: k, L, M⟩ V := by
 refine Exec.yields (x := .v x) hh (fun FR env t w h2 h3 h4 hG => ⟨trivial, fun K Q hK => ?_⟩) h
 obtain ⟨b, o', ha, b3⟩ := hb.out h4 hG
 exact wp_value (ld_runC hT (opd_sound h3 h4) hG hc ha (fun j v hv => h2.holds _ _ (b3 j v hv)) hsz hx) (hK w h2)
def CellsAt (cs : List Value) (off : Nat) (l : List Value) : Prop := ∀ j v, l[j]? = some v → cs[off + j]? = some v
theorem rowSat_cell {w : World} {e sz : Nat} {x : Value} {cs : List Value} (h : rowSat w e sz x cs) {b o : Nat} {n c : Nat} (hx : x = .slice (some ⟨b, o, none⟩) n c) {off : Nat} {l : List Value} (hl : CellsAt cs off l) :
  ∀ j v, l[j]? = some v → w.cell? ⟨b, o + off + j, none⟩ = some v := by
 obtain ⟨n', hrow⟩ := h
 intro j v hv
 have hcs := hl j v hv
 have ho : o = 0 := by
  rcases hrow.2 with ⟨hv, _⟩ | ⟨g, cap, cur, hv, _⟩
  ·rw [hx] at hv; simp at hv
  ·rw [hx] at hv; simp at hv; exact hv.1.2
 subst ho
 have := hrow.cells (g := b) (by rw [hx]; rfl) (off + j) v hcs
 rw [Addr.add_lit] at this
 simpa [Nat.add_assoc] using this
theorem rowSat_some {w : World} {e sz n c : Nat} {a : Option Addr} {cs : List Value} (h : rowSat w e sz (.slice a n c) cs) : cs.length = n * sz ∧ n ≤ c ∧ ((a = none ∧ n = 0 ∧ c = 0) ∨ ∃ g, a = some ⟨g, 0, none⟩) ∧ w.ownsRow 0 e sz (.slice a n c) n cs := by
 obtain ⟨n', hrow⟩ := h
 rcases hrow.2 with ⟨hv, hn⟩ | ⟨g, cap, cur, hv, k1, k2, k3, k4⟩
 ·simp only [Value.slice.injEq] at hv
  obtain ⟨rfl, rfl, rfl⟩ := hv
  subst hn
  exact ⟨hrow.1, Nat.le_refl _, .inl ⟨rfl, rfl, rfl⟩, hrow⟩
 ·simp only [Value.slice.injEq] at hv
  obtain ⟨rfl, rfl, rfl⟩ := hv
  exact ⟨hrow.1, k3, .inr ⟨g, rfl⟩, hrow⟩
include hT in

theorem Exec.ldR (i : Nat) {o : Oper} {rest all : List Oper} {lr : List REnt} {k : List Kt} {L : Fr} {M : List OB} {V : View} {G : List (Nat × Bool)} {d : Nat} {a : Option Addr} {off n c e sz : Nat} {dd : TyD} {cs l : List Value} {x : Value}
  (hh : headOf C.nt all lr L o = some (G, d)) (hc : ldOf C.T (opd L lr) G o.op = some (a, off, dd)) (hi : nth M i = some (.row (.slice a n c) cs e sz)) (hb : Imp lr G (CellsAt cs off l ∧ ∃ b o, a = some ⟨b, o, none⟩)) (hsz : l.length = dd.size) (hx : cellsVal dd.und.agg l = x)
  (h : Exec C ⟨.ops rest all (⟨d, G, .v x, d⟩ :: lr) :: k, nextL G d (.v x) L, M⟩ V) : Exec C ⟨.ops (o :: rest) all lr :: k, L, M⟩ V := by
 refine Exec.yields (x := .v x) hh (fun FR env t w h2 h3 h4 hG => ⟨trivial, fun K Q hK => ?_⟩) h
 rw [nth_eq] at hi
 obtain ⟨hl, b, o', rfl⟩ := hb.out h4 hG
 exact wp_value (ld_runC hT (opd_sound h3 h4) hG hc rfl (rowSat_cell (h2.sat i _ hi) rfl hl) hsz hx) (hK w h2)
end
end Go.Proofs.YtglnnhmmipopiaaGreat
