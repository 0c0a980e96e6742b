/-
  A FRAMEWORK FOR PROOFS ABOUT CALLS (part l): pure operations on strings and slices, in either kind of region.
  Conditions: the table of types is the program's (TOk).
-/
import Derived.Test.YtkbldnpifmjipaaFj
import Derived.Laws.IdiomStrings
import Derived.Laws.MakeOwn
import Derived.Lib.BufferWrite
import Derived.Lib.UnsafeStr
set_option linter.all false
namespace Go.Proofs.Ytkbldnpifmjipaa

/-- What stands next in the plan of a drawn region, and is taken first. -/
def headX (nt : Nat) (all : List Oper) (lr : List REnt) (i : Nat) (L : Fr) : Option (Oper × List (Nat × Bool) × Nat) :=
  match nth all i with
  | some o => match headOf nt all lr L o with
    | some (G, d) => some (o, G, d)
    | none => none
  | none => none

theorem Exec.fyields {C : Ctx} {all : List Oper} {listed : List Bool} {ends : List Nat} {n0 : Nat} {mask : List Nat} {V1 : View} {lr : List REnt} {n n' : Nat} {k : List Kt} {L : Fr} {M : List OB} {V : View} {i d : Nat} {p : List (Nat × Bool)} {o : Oper} {G : List (Nat × Bool)} {x : SV}
    (hh : headX C.nt all lr i L = some (o, G, d)) (hn : n' = n + 1)
    (hy : ∀ env t w, LOk env M L t → ROk env M lr t → Holds V1 w → RdM env M (rdM mask 0 n0 M) w → condT t G → x.ok M ∧ (execOp (⟨t, []⟩ : Act).eval o).run C.P w = .ok (.value (den env x)) w)
    (h : Exec C ⟨.draw ⟨all, setT listed i, n, ends, n0, mask, V1, p, ⟨d, G, x, d⟩ :: lr⟩ :: k, nextL G d x L, M⟩ V) : Exec C ⟨.draw ⟨all, listed, n', ends, n0, mask, V1, (i, true) :: p, lr⟩ :: k, L, M⟩ V := by
  subst hn
  unfold headX at hh
  split at hh <;> try (simp at hh; done)
  rename_i o' ho
  split at hh <;> try (simp at hh; done)
  rename_i G' d' hhd
  simp only [Option.some.injEq, Prod.mk.injEq] at hh
  obtain ⟨rfl, rfl, rfl⟩ := hh
  obtain ⟨hg, hdst, hnt, hf, hGL⟩ := headOf_some hhd
  refine Exec.float (D := ⟨all, listed, n + 1, ends, n0, mask, V1, (i, true) :: p, lr⟩) (r := none) (x := x) rfl rfl ho hg hdst hnt hf (L' := nextL G' d' x L) ?_ (fun env t w g1 g2 g3 g4 => ⟨fun hc => (hy env t w g1 g2 g3 g4 hc).1, fun hc => (hy env t w g1 g2 g3 g4 hc).2, fun r0 hr => by simp at hr⟩) h
  rcases hGL with rfl | ⟨hne, hnone⟩
  · exact .inl ⟨rfl, rfl⟩
  · cases G' with
    | nil => exact absurd rfl hne
    | cons g G => exact .inr ⟨rfl, hnone⟩

/-- In a region with a fixed order: an operation that only yields. -/
theorem Exec.yieldsP {C : Ctx} {o : Oper} {rest all : List Oper} {lr : List REnt} {k : List Kt} {L : Fr} {M : List OB} {V : View} {G : List (Nat × Bool)} {x : SV} {d : Nat}
    (hh : headOf C.nt all lr L o = some (G, d))
    (hy : ∀ env t w, LOk env M L t → ROk env M lr t → Holds V w → condT t G → x.ok M ∧ (execOp (⟨t, []⟩ : Act).eval o).run C.P w = .ok (.value (den env x)) w)
    (h : Exec C ⟨.ops rest all (⟨d, G, x, d⟩ :: lr) :: k, nextL G d x L, M⟩ V) : Exec C ⟨.ops (o :: rest) all lr :: k, L, M⟩ V :=
  Exec.yields hh (fun FR env t w h2 h3 h4 hG => ⟨(hy env t w h3 h4 h2.holds hG).1, fun _ _ hK => wp_value (hy env t w h3 h4 h2.holds hG).2 (hK w h2)⟩) h

section
variable {P : Program} {T : List TyD} (hT : TOk P T)
include hT

theorem idx_run {env : List Nat} {M : List OB} {t : Array Value} {od : Look} (hO : Tells env M t od) {G : List (Nat × Bool)} (hG : condT t G) {o : Oper} {l : List UInt8} {n : Int}
    (hc : idxOf T od G o.op = some (l, n)) (hb : 0 ≤ n ∧ n < l.length) (w : World) : (execOp (⟨t, []⟩ : Act).eval o).run P w = .ok (.value (.int .u8 (byteAt l n.toNat))) w := by
  obtain ⟨b1, b2⟩ := hb
  unfold idxOf at hc
  split at hc <;> try (simp at hc; done)
  rename_i ty x i hop
  split at hc <;> try (simp at hc; done)
  rename_i dd hd
  split at hc <;> try (simp at hc; done)
  rename_i m hsz hu
  split at hc <;> try (simp at hc; done)
  rename_i l' k' n' hx hi
  simp only [Option.some.injEq, Prod.mk.injEq] at hc
  obtain ⟨rfl, rfl⟩ := hc
  have hlt : n'.toNat < l'.length := by omega
  have e1 : ((⟨⟨l'⟩⟩ : ByteArray)[n'.toNat]? : Option UInt8) = some (l'[n'.toNat]'hlt) := by
    have : n'.toNat < (⟨⟨l'⟩⟩ : ByteArray).size := hlt
    rw [getElem?_pos (⟨⟨l'⟩⟩ : ByteArray) n'.toNat this]
    rfl
  unfold execOp
  simp only [hop, ev_sound hO hG hx, ev_sound hO hG hi, den, Instr.index, asIntOf, Sem.run_bind, Sem.run_pure, Result.andThen_ok, run_underlying (t_str hT hd (by omega) hu), if_pos b1, e1]
  simp [byteAt, hlt]

theorem ia_run {env : List Nat} {M : List OB} {t : Array Value} {od : Look} (hO : Tells env M t od) {G : List (Nat × Bool)} (hG : condT t G) {o : Oper} {a : Option Addr} {len sz : Nat} {n : Int}
    (hc : iaOf T od G o.op = some (a, len, n, sz)) (hb : 0 ≤ n ∧ n < len ∧ ∃ b o, a = some ⟨b, o, none⟩) (w : World) :
    (execOp (⟨t, []⟩ : Act).eval o).run P w = .ok (.value (den env (.el a (n.toNat * sz)))) w := by
  obtain ⟨b1, b2, b, o', rfl⟩ := hb
  unfold iaOf at hc
  split at hc <;> try (simp at hc; done)
  rename_i ty x i hop
  split at hc <;> try (simp at hc; done)
  rename_i dd hd
  split at hc <;> try (simp at hc; done)
  rename_i m e hsz hu
  split at hc <;> try (simp at hc; done)
  rename_i ed hed
  split at hc <;> try (simp at hc; done)
  rename_i sz' hesz
  split at hc <;> try (simp at hc; done)
  rename_i a' len' cap' k' n' hx hi
  simp only [Option.some.injEq, Prod.mk.injEq] at hc
  obtain ⟨rfl, rfl, rfl, rfl⟩ := hc
  unfold execOp
  simp only [hop, ev_sound hO hG hx, ev_sound hO hG hi, den, Instr.indexAt, asIntOf, Sem.run_bind, Sem.run_pure, Result.andThen_ok, run_underlying (t_slice hT hd (by omega) hu)]
  rw [if_pos ⟨b1, b2⟩]
  simp only [Sem.run_bind, t_size hT w hed (by omega), Result.andThen_ok, Sem.run_pure, hesz]
  simp [Addr.add_lit]

theorem ld_run {V : View} {env : List Nat} {M : List OB} {t : Array Value} {od : Look} (hO : Tells env M t od) {G : List (Nat × Bool)} (hG : condT t G) {o : Oper} {a : Option Addr} {off : Nat} {dd : TyD} {cs : List Value} {x : Value}
    (hc : ldOf T od G o.op = some (a, off, dd)) (hb : RdAt V a off cs) (hsz : cs.length = dd.size) (hx : cellsVal dd.und.agg cs = x) {w : World} (hV : Holds V w) :
    (execOp (⟨t, []⟩ : Act).eval o).run P w = .ok (.value x) w := by
  obtain ⟨b, o', ha, b3⟩ := hb
  exact ld_runC (C := ⟨P, T, default, 0, V, fun _ _ _ => True⟩) hT hO hG hc ha (fun j v hv => hV _ _ (b3 j v hv)) hsz hx

end

/-! ### Strings -/

/-- A bound of a slice expression: none, or a number. -/
def bdOf (od : Look) (G : List (Nat × Bool)) : Option Operand → Option (Option Int)
  | none => some none
  | some x => match ev od G x with
    | some (.v (.int _ n)) => some (some n)
    | _ => none

theorem bdOf_sound {env : List Nat} {M : List OB} {t : Array Value} {od : Look} (hO : Tells env M t od) {G : List (Nat × Bool)} (hG : condT t G) : ∀ {b : Option Operand} {r : Option Int}, bdOf od G b = some r →
    ∃ v, b.map (⟨t, []⟩ : Act).eval = v ∧ ((r = none ∧ v = none) ∨ ∃ n k, r = some n ∧ v = some (.int k n))
  | none, r, h => by simp only [bdOf, Option.some.injEq] at h; exact ⟨none, rfl, .inl ⟨h.symm, rfl⟩⟩
  | some x, r, h => by
    simp only [bdOf] at h
    split at h <;> try (simp at h; done)
    rename_i k n hx
    simp only [Option.some.injEq] at h
    exact ⟨some (.int k n), by rw [Option.map_some, ev_sound hO hG hx]; rfl, .inr ⟨n, k, h.symm, rfl⟩⟩

def sslOf (T : List TyD) (od : Look) (G : List (Nat × Bool)) (op : Op) : Option (List UInt8 × Option Int × Option Int) :=
  match op with
  | .slice t x lo hi none => match nth T t with
    | some d => match d.size, d.und with
      | _ + 1, .str => match ev od G x, bdOf od G lo, bdOf od G hi with
        | some (.v (.string ⟨⟨l⟩⟩)), some a, some b => some (l, a, b)
        | _, _, _ => none
      | _, _ => none
    | none => none
  | _ => none

def loN : Option Int → Int
  | none => 0
  | some n => n

def hiN (len : Nat) : Option Int → Int
  | none => len
  | some n => n

theorem ssl_run {P : Program} {T : List TyD} (hT : TOk P T) {env : List Nat} {M : List OB} {t : Array Value} {od : Look} (hO : Tells env M t od) {G : List (Nat × Bool)} (hG : condT t G) {o : Oper} {l : List UInt8} {a b : Option Int}
    (hc : sslOf T od G o.op = some (l, a, b)) (hb : 0 ≤ loN a ∧ loN a ≤ hiN l.length b ∧ hiN l.length b ≤ l.length) (w : World) :
    (execOp (⟨t, []⟩ : Act).eval o).run P w = .ok (.value (.string ⟨⟨(l.take (hiN l.length b).toNat).drop (loN a).toNat⟩⟩)) w := by
  unfold sslOf at hc
  split at hc <;> try (simp at hc; done)
  rename_i ty x lo hi hop
  split at hc <;> try (simp at hc; done)
  rename_i dd hd
  split at hc <;> try (simp at hc; done)
  rename_i m hsz hu
  split at hc <;> try (simp at hc; done)
  rename_i l' a' b' hx hlo hhi
  simp only [Option.some.injEq, Prod.mk.injEq] at hc
  obtain ⟨rfl, rfl, rfl⟩ := hc
  obtain ⟨va, ea, ha⟩ := bdOf_sound hO hG hlo
  obtain ⟨vb, eb, hb'⟩ := bdOf_sound hO hG hhi
  have hsize : (⟨⟨l'⟩⟩ : ByteArray).size = l'.length := rfl
  have hext : ∀ p q : Nat, (⟨⟨l'⟩⟩ : ByteArray).extract p q = ⟨⟨(l'.take q).drop p⟩⟩ := by
    intro p q
    apply ByteArray.ext
    rw [ByteArray.data_extract]
    apply Array.ext'
    simp [List.drop_take]
  unfold execOp
  simp only [hop, ev_sound hO hG hx, ea, eb, Option.map_none, den, Instr.sliceAt, Instr.slice, Sem.run_bind, run_underlying (t_str hT hd (by omega) hu), Result.andThen_ok, Option.isSome_none, Bool.false_eq_true, if_false]
  rcases ha with ⟨rfl, rfl⟩ | ⟨n, k, rfl, rfl⟩ <;> rcases hb' with ⟨rfl, rfl⟩ | ⟨n', k', rfl, rfl⟩ <;> simp only [loN, hiN] at hb ⊢
  · simp only [Instr.sliceBounds, Sem.run_bind, Sem.run_pure, Result.andThen_ok, hext, hsize, Int.toNat_natCast, Int.toNat_zero]
  · simp only [Instr.sliceBounds, Instr.sliceBound, asIntOf, Sem.run_bind, Sem.run_pure, Result.andThen_ok, hsize]
    rw [if_pos (by omega)]
    simp only [Sem.run_pure, Result.andThen_ok, hext, Int.toNat_zero, Sem.run_bind]
  · simp only [Instr.sliceBounds, Instr.sliceBound, asIntOf, Sem.run_bind, Sem.run_pure, Result.andThen_ok, hsize]
    rw [if_pos (by omega)]
    simp only [Sem.run_pure, Result.andThen_ok, hext, Int.toNat_natCast, Sem.run_bind]
  · simp only [Instr.sliceBounds, Instr.sliceBound, asIntOf, Sem.run_bind, Sem.run_pure, Result.andThen_ok, hsize]
    rw [if_pos (by omega)]
    simp only [Sem.run_pure, Result.andThen_ok, Sem.run_bind]
    rw [if_pos (by omega)]
    simp only [Sem.run_pure, Result.andThen_ok, hext, Sem.run_bind]

/-- The sum of two strings. -/
def catOf (od : Look) (G : List (Nat × Bool)) (op : Op) : Option (List UInt8 × List UInt8) :=
  match op with
  | .binOp .add _ x y _ => match ev od G x, ev od G y with
    | some (.v (.string ⟨⟨a⟩⟩)), some (.v (.string ⟨⟨b⟩⟩)) => some (a, b)
    | _, _ => none
  | _ => none

theorem cat_run {P : Program} {env : List Nat} {M : List OB} {t : Array Value} {od : Look} (hO : Tells env M t od) {G : List (Nat × Bool)} (hG : condT t G) {o : Oper} {a b : List UInt8}
    (hc : catOf od G o.op = some (a, b)) (hb : a.length + b.length ≤ 9223372036854775807) (w : World) :
    (execOp (⟨t, []⟩ : Act).eval o).run P w = .ok (.value (.string ⟨⟨a ++ b⟩⟩)) w := by
  unfold catOf at hc
  split at hc <;> try (simp at hc; done)
  rename_i ty x y cc hop
  split at hc <;> try (simp at hc; done)
  rename_i a' b' hx hy
  simp only [Option.some.injEq, Prod.mk.injEq] at hc
  obtain ⟨rfl, rfl⟩ := hc
  have e1 : (⟨⟨a'⟩⟩ : ByteArray) ++ ⟨⟨b'⟩⟩ = ⟨⟨a' ++ b'⟩⟩ := by
    apply ByteArray.ext
    rw [ByteArray.data_append]
    apply Array.ext'
    simp
  have e2 : ¬ (((⟨⟨a'⟩⟩ : ByteArray).size + (⟨⟨b'⟩⟩ : ByteArray).size : Nat) : Int) > IntKind.i64.max := by
    have h1 : (⟨⟨a'⟩⟩ : ByteArray).size = a'.length := rfl
    have h2 : (⟨⟨b'⟩⟩ : ByteArray).size = b'.length := rfl
    have h3 : IntKind.i64.max = 9223372036854775807 := rfl
    rw [h1, h2, h3]
    omega
  unfold execOp
  simp only [hop, ev_sound hO hG hx, ev_sound hO hG hy, den, binOp, Op.stringOp, if_neg e2, e1]
  simp [eqGuard]

section
variable {C : Ctx} (hT : TOk C.P C.T) {listed : List Bool} {ends : List Nat} {n0 : Nat} {mask : List Nat} {V1 : View} {m' : Nat} {o : Oper} {rest all : List Oper} {lr : List REnt} {k : List Kt} {L : Fr} {M : List OB} {V : View} {G : List (Nat × Bool)} {d i m : Nat}

theorem Exec.cat {a b : List UInt8} (hh : headOf C.nt all lr L o = some (G, d)) (hc : catOf (opd L lr) G o.op = some (a, b)) (hb : Imp lr G (a.length + b.length ≤ 9223372036854775807))
    (h : Exec C ⟨.ops rest all (⟨d, G, .v (.string ⟨⟨a ++ b⟩⟩), d⟩ :: lr) :: k, nextL G d (.v (.string ⟨⟨a ++ b⟩⟩)) L, M⟩ V) : Exec C ⟨.ops (o :: rest) all lr :: k, L, M⟩ V :=
  Exec.yieldsP (x := .v (.string ⟨⟨a ++ b⟩⟩)) hh (fun _ _ w h3 h4 _ hG => ⟨trivial, cat_run (opd_sound h3 h4) hG hc (hb.out h4 hG) w⟩) h

theorem Exec.fcat {p : List (Nat × Bool)} {a b : List UInt8} (hh : headX C.nt all lr i L = some (o, G, d)) (hm : m' = m + 1) (hc : catOf (opd L lr) G o.op = some (a, b)) (hb : Imp lr G (a.length + b.length ≤ 9223372036854775807))
    (h : Exec C ⟨.draw ⟨all, setT listed i, m, ends, n0, mask, V1, p, ⟨d, G, .v (.string ⟨⟨a ++ b⟩⟩), d⟩ :: lr⟩ :: k, nextL G d (.v (.string ⟨⟨a ++ b⟩⟩)) L, M⟩ V) : Exec C ⟨.draw ⟨all, listed, m', ends, n0, mask, V1, (i, true) :: p, lr⟩ :: k, L, M⟩ V :=
  Exec.fyields (x := .v (.string ⟨⟨a ++ b⟩⟩)) hh hm (fun _ _ w h3 h4 _ _ hG => ⟨trivial, cat_run (opd_sound h3 h4) hG hc (hb.out h4 hG) w⟩) h

include hT

theorem Exec.ssl {l : List UInt8} {a b : Option Int} {r : List UInt8} (hh : headOf C.nt all lr L o = some (G, d)) (hc : sslOf C.T (opd L lr) G o.op = some (l, a, b))
    (hb : Imp lr G (0 ≤ loN a ∧ loN a ≤ hiN l.length b ∧ hiN l.length b ≤ l.length)) (hr : (l.take (hiN l.length b).toNat).drop (loN a).toNat = r)
    (h : Exec C ⟨.ops rest all (⟨d, G, .v (.string ⟨⟨r⟩⟩), d⟩ :: lr) :: k, nextL G d (.v (.string ⟨⟨r⟩⟩)) L, M⟩ V) : Exec C ⟨.ops (o :: rest) all lr :: k, L, M⟩ V :=
  Exec.yieldsP (x := .v (.string ⟨⟨r⟩⟩)) hh (fun _ _ w h3 h4 _ hG => ⟨trivial, by rw [ssl_run hT (opd_sound h3 h4) hG hc (hb.out h4 hG) w, hr]; rfl⟩) h

theorem Exec.fssl {p : List (Nat × Bool)} {l : List UInt8} {a b : Option Int} {r : List UInt8} (hh : headX C.nt all lr i L = some (o, G, d)) (hm : m' = m + 1) (hc : sslOf C.T (opd L lr) G o.op = some (l, a, b))
    (hb : Imp lr G (0 ≤ loN a ∧ loN a ≤ hiN l.length b ∧ hiN l.length b ≤ l.length)) (hr : (l.take (hiN l.length b).toNat).drop (loN a).toNat = r)
    (h : Exec C ⟨.draw ⟨all, setT listed i, m, ends, n0, mask, V1, p, ⟨d, G, .v (.string ⟨⟨r⟩⟩), d⟩ :: lr⟩ :: k, nextL G d (.v (.string ⟨⟨r⟩⟩)) L, M⟩ V) : Exec C ⟨.draw ⟨all, listed, m', ends, n0, mask, V1, (i, true) :: p, lr⟩ :: k, L, M⟩ V :=
  Exec.fyields (x := .v (.string ⟨⟨r⟩⟩)) hh hm (fun _ _ w h3 h4 _ _ hG => ⟨trivial, by rw [ssl_run hT (opd_sound h3 h4) hG hc (hb.out h4 hG) w, hr]; rfl⟩) h

theorem Exec.fidx {p : List (Nat × Bool)} {l : List UInt8} {n : Int} (hh : headX C.nt all lr i L = some (o, G, d)) (hm : m' = m + 1) (hc : idxOf C.T (opd L lr) G o.op = some (l, n)) (hb : Imp lr G (0 ≤ n ∧ n < l.length))
    (h : Exec C ⟨.draw ⟨all, setT listed i, m, ends, n0, mask, V1, p, ⟨d, G, .v (.int .u8 (byteAt l n.toNat)), d⟩ :: lr⟩ :: k, nextL G d (.v (.int .u8 (byteAt l n.toNat))) L, M⟩ V) : Exec C ⟨.draw ⟨all, listed, m', ends, n0, mask, V1, (i, true) :: p, lr⟩ :: k, L, M⟩ V :=
  Exec.fyields (x := .v (.int .u8 (byteAt l n.toNat))) hh hm (fun _ _ w h3 h4 _ _ hG => ⟨trivial, idx_run hT (opd_sound h3 h4) hG hc (hb.out h4 hG) w⟩) h

theorem Exec.fia {p : List (Nat × Bool)} {a : Option Addr} {len sz : Nat} {n : Int} (hh : headX C.nt all lr i L = some (o, G, d)) (hm : m' = m + 1) (hc : iaOf C.T (opd L lr) G o.op = some (a, len, n, sz)) (hb : Imp lr G (0 ≤ n ∧ n < len ∧ ∃ b o, a = some ⟨b, o, none⟩))
    (h : Exec C ⟨.draw ⟨all, setT listed i, m, ends, n0, mask, V1, p, ⟨d, G, .el a (n.toNat * sz), d⟩ :: lr⟩ :: k, nextL G d (.el a (n.toNat * sz)) L, M⟩ V) : Exec C ⟨.draw ⟨all, listed, m', ends, n0, mask, V1, (i, true) :: p, lr⟩ :: k, L, M⟩ V :=
  Exec.fyields (x := .el a (n.toNat * sz)) hh hm (fun _ _ w h3 h4 _ _ hG => ⟨(hb.out h4 hG).2.2, ia_run hT (opd_sound h3 h4) hG hc (hb.out h4 hG) w⟩) h

theorem Exec.fld {p : List (Nat × Bool)} {a : Option Addr} {off : Nat} {dd : TyD} {cs : List Value} {x : Value} (hh : headX C.nt all lr i L = some (o, G, d)) (hm : m' = m + 1) (hc : ldOf C.T (opd L lr) G o.op = some (a, off, dd)) (hb : Imp lr G (RdAt V1 a off cs))
    (hsz : cs.length = dd.size) (hx : cellsVal dd.und.agg cs = x)
    (h : Exec C ⟨.draw ⟨all, setT listed i, m, ends, n0, mask, V1, p, ⟨d, G, .v x, d⟩ :: lr⟩ :: k, nextL G d (.v x) L, M⟩ V) : Exec C ⟨.draw ⟨all, listed, m', ends, n0, mask, V1, (i, true) :: p, lr⟩ :: k, L, M⟩ V :=
  Exec.fyields (x := .v x) hh hm (fun _ _ w h3 h4 hV _ hG => ⟨trivial, ld_run hT (opd_sound h3 h4) hG hc (hb.out h4 hG) hsz hx hV⟩) h

/-- A load out of a row of the call's own, taken first. -/
theorem Exec.fldR (r : Nat) {p : List (Nat × Bool)} {a : Option Addr} {off n c e sz : Nat} {dd : TyD} {cs l : List Value} {x : Value} (hh : headX C.nt all lr i L = some (o, G, d)) (hm : m' = m + 1) (hc : ldOf C.T (opd L lr) G o.op = some (a, off, dd))
    (hi : nth (rdM mask 0 n0 M) r = some (.row (.slice a n c) cs e sz)) (hb : Imp lr G (CellsAt cs off l ∧ ∃ b o, a = some ⟨b, o, none⟩)) (hsz : l.length = dd.size) (hx : cellsVal dd.und.agg l = x)
    (h : Exec C ⟨.draw ⟨all, setT listed i, m, ends, n0, mask, V1, p, ⟨d, G, .v x, d⟩ :: lr⟩ :: k, nextL G d (.v x) L, M⟩ V) : Exec C ⟨.draw ⟨all, listed, m', ends, n0, mask, V1, (i, true) :: p, lr⟩ :: k, L, M⟩ V :=
  Exec.fyields (x := .v x) hh hm (fun _ _ w h3 h4 hV hM hG => ⟨trivial, by
    rw [nth_eq] at hi
    obtain ⟨hl, b, o', rfl⟩ := hb.out h4 hG
    exact ld_runC hT (opd_sound h3 h4) hG hc rfl (rowSat_cell (hM.2 r _ _ _ _ hi) rfl hl) hsz hx⟩) h

end

end Go.Proofs.Ytkbldnpifmjipaa
