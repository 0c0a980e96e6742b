/-
 A FRAMEWORK FOR PROOFS ABOUT CALLS: its parts Fl Fm Fn Fo Fp Fq Ga Gb Gc put together.
 Conditions: the table of types is the program's (TOk).
-/
import Derived.Test.YtglnnhmmipopiaaGreatMa
import Derived.Laws.IdiomStrings
import Derived.Laws.MakeOwn
import Derived.Lib.BufferWrite
import Derived.Lib.UnsafeStr
import Derived.Sort.Grow
import Derived.Lib.SlicesCompact
import Derived.ProofKit
import Derived.OpenShut
import Derived.JoinedCond
import Derived.Lib.SmallJoins
import Derived.Deep.Slices
import Derived.Carry

set_option linter.all false
namespace Go.Proofs.YtglnnhmmipopiaaGreat
def headX (nt : Nat) (all : List Oper) (lr : List REnt) (i : Nat) (L : Fr) : Option (Oper × List (Nat × Bool) × Nat) :=
 match nth all i with
 | some o => match headOf nt all lr L o with
  | some (G, d) => some (o, G, d)
  | none => none
 | none => none
theorem Exec.fyields {C : Ctx} {all : List Oper} {listed : List Bool} {ends : List Nat} {n0 : Nat} {mask : List Nat} {V1 : View} {lr : List REnt} {n n' : Nat} {k : List Kt} {L : Fr} {M : List OB} {V : View} {i d : Nat} {p : List (Nat × Bool)} {o : Oper} {G : List (Nat × Bool)} {x : SV}
  (hh : headX C.nt all lr i L = some (o, G, d)) (hn : n' = n + 1)
  (hy : ∀ env t w, LOk env M L t → ROk env M lr t → Holds V1 w → RdM env M (rdM mask 0 n0 M) w → condT t G → x.ok M ∧ (execOp (⟨t, []⟩ : Act).eval o).run C.P w = .ok (.value (den env x)) w)
  (h : Exec C ⟨.draw ⟨all, setT listed i, n, ends, n0, mask, V1, p, ⟨d, G, x, d⟩ :: lr⟩ :: k, nextL G d x L, M⟩ V) : Exec C ⟨.draw ⟨all, listed, n', ends, n0, mask, V1, (i, true) :: p, lr⟩ :: k, L, M⟩ V := by
 subst hn
 unfold headX at hh
 split at hh <;> try (simp at hh; done)
 rename_i o' ho
 split at hh <;> try (simp at hh; done)
 rename_i G' d' hhd
 simp only [Option.some.injEq, Prod.mk.injEq] at hh
 obtain ⟨rfl, rfl, rfl⟩ := hh
 obtain ⟨hg, hdst, hnt, hf, hGL⟩ := headOf_some hhd
 refine Exec.float (D := ⟨all, listed, n + 1, ends, n0, mask, V1, (i, true) :: p, lr⟩) (r := none) (x := x) rfl rfl ho hg hdst hnt hf (L' := nextL G' d' x L) ?_ (fun env t w g1 g2 g3 g4 => ⟨fun hc => (hy env t w g1 g2 g3 g4 hc).1, fun hc => (hy env t w g1 g2 g3 g4 hc).2, fun r0 hr => by simp at hr⟩) h
 rcases hGL with rfl | ⟨hne, hnone⟩
 ·exact .inl ⟨rfl, rfl⟩
 ·cases G' with
  | nil => exact absurd rfl hne
  | cons g G => exact .inr ⟨rfl, hnone⟩
theorem Exec.yieldsP {C : Ctx} {o : Oper} {rest all : List Oper} {lr : List REnt} {k : List Kt} {L : Fr} {M : List OB} {V : View} {G : List (Nat × Bool)} {x : SV} {d : Nat}
  (hh : headOf C.nt all lr L o = some (G, d))
  (hy : ∀ env t w, LOk env M L t → ROk env M lr t → Holds V w → condT t G → x.ok M ∧ (execOp (⟨t, []⟩ : Act).eval o).run C.P w = .ok (.value (den env x)) w)
  (h : Exec C ⟨.ops rest all (⟨d, G, x, d⟩ :: lr) :: k, nextL G d x L, M⟩ V) : Exec C ⟨.ops (o :: rest) all lr :: k, L, M⟩ V :=
 Exec.yields hh (fun FR env t w h2 h3 h4 hG => ⟨(hy env t w h3 h4 h2.holds hG).1, fun _ _ hK => wp_value (hy env t w h3 h4 h2.holds hG).2 (hK w h2)⟩) h
section
variable {P : Program} {T : List TyD} (hT : TOk P T)
include hT
theorem idx_run {env : List Nat} {M : List OB} {t : Array Value} {od : Look} (hO : Tells env M t od) {G : List (Nat × Bool)} (hG : condT t G) {o : Oper} {l : List UInt8} {n : Int}
  (hc : idxOf T od G o.op = some (l, n)) (hb : 0 ≤ n ∧ n < l.length) (w : World) : (execOp (⟨t, []⟩ : Act).eval o).run P w = .ok (.value (.int .u8 (byteAt l n.toNat))) w := by
 obtain ⟨b1, b2⟩ := hb
 unfold idxOf at hc
 split at hc <;> try (simp at hc; done)
 rename_i ty x i hop
 split at hc <;> try (simp at hc; done)
 rename_i dd hd
 split at hc <;> try (simp at hc; done)
 rename_i m hsz hu
 split at hc <;> try (simp at hc; done)
 rename_i l' k' n' hx hi
 simp only [Option.some.injEq, Prod.mk.injEq] at hc
 obtain ⟨rfl, rfl⟩ := hc
 have hlt : n'.toNat < l'.length := by omega
 have e1 : ((⟨⟨l'⟩⟩ : ByteArray)[n'.toNat]? : Option UInt8) = some (l'[n'.toNat]'hlt) := by
  have : n'.toNat < (⟨⟨l'⟩⟩ : ByteArray).size := hlt
  rw [getElem?_pos (⟨⟨l'⟩⟩ : ByteArray) n'.toNat this]
  rfl
 unfold execOp
 simp only [hop, ev_sound hO hG hx, ev_sound hO hG hi, den, Instr.index, asIntOf, Sem.run_bind, Sem.run_pure, Result.andThen_ok, run_underlying (t_str hT hd (by omega) hu), if_pos b1, e1]
 simp [byteAt, hlt]
theorem ia_run {env : List Nat} {M : List OB} {t : Array Value} {od : Look} (hO : Tells env M t od) {G : List (Nat × Bool)} (hG : condT t G) {o : Oper} {a : Option Addr} {len sz : Nat} {n : Int}
  (hc : iaOf T od G o.op = some (a, len, n, sz)) (hb : 0 ≤ n ∧ n < len ∧ ∃ b o, a = some ⟨b, o, none⟩) (w : World) :
  (execOp (⟨t, []⟩ : Act).eval o).run P w = .ok (.value (den env (.el a (n.toNat * sz)))) w := by
 obtain ⟨b1, b2, b, o', rfl⟩ := hb
 unfold iaOf at hc
 split at hc <;> try (simp at hc; done)
 rename_i ty x i hop
 split at hc <;> try (simp at hc; done)
 rename_i dd hd
 split at hc <;> try (simp at hc; done)
 rename_i m e hsz hu
 split at hc <;> try (simp at hc; done)
 rename_i ed hed
 split at hc <;> try (simp at hc; done)
 rename_i sz' hesz
 split at hc <;> try (simp at hc; done)
 rename_i a' len' cap' k' n' hx hi
 simp only [Option.some.injEq, Prod.mk.injEq] at hc
 obtain ⟨rfl, rfl, rfl, rfl⟩ := hc
 unfold execOp
 simp only [hop, ev_sound hO hG hx, ev_sound hO hG hi, den, Instr.indexAt, asIntOf, Sem.run_bind, Sem.run_pure, Result.andThen_ok, run_underlying (t_slice hT hd (by omega) hu)]
 rw [if_pos ⟨b1, b2⟩]
 simp only [Sem.run_bind, t_size hT w hed (by omega), Result.andThen_ok, Sem.run_pure, hesz]
 simp [Addr.add_lit]
theorem ld_run {V : View} {env : List Nat} {M : List OB} {t : Array Value} {od : Look} (hO : Tells env M t od) {G : List (Nat × Bool)} (hG : condT t G) {o : Oper} {a : Option Addr} {off : Nat} {dd : TyD} {cs : List Value} {x : Value}
  (hc : ldOf T od G o.op = some (a, off, dd)) (hb : RdAt V a off cs) (hsz : cs.length = dd.size) (hx : cellsVal dd.und.agg cs = x) {w : World} (hV : Holds V w) :
  (execOp (⟨t, []⟩ : Act).eval o).run P w = .ok (.value x) w := by
 obtain ⟨b, o', ha, b3⟩ := hb
 exact ld_runC (C := ⟨P, T, default, 0, V, fun _ _ _ => True⟩) hT hO hG hc ha (fun j v hv => hV _ _ (b3 j v hv)) hsz hx
end

/-! ### Strings -/
def bdOf (od : Look) (G : List (Nat × Bool)) : Option Operand → Option (Option Int)
 | none => some none
 | some x => match ev od G x with
  | some (.v (.int _ n)) => some (some n)
  | _ => none
theorem bdOf_sound {env : List Nat} {M : List OB} {t : Array Value} {od : Look} (hO : Tells env M t od) {G : List (Nat × Bool)} (hG : condT t G) : ∀ {b : Option Operand} {r : Option Int}, bdOf od G b = some r →
  ∃ v, b.map (⟨t, []⟩ : Act).eval = v ∧ ((r = none ∧ v = none) ∨ ∃ n k, r = some n ∧ v = some (.int k n))
 | none, r, h => by simp only [bdOf, Option.some.injEq] at h; exact ⟨none, rfl, .inl ⟨h.symm, rfl⟩⟩
 | some x, r, h => by
  simp only [bdOf] at h
  split at h <;> try (simp at h; done)
  rename_i k n hx
  simp only [Option.some.injEq] at h
  exact ⟨some (.int k n), by rw [Option.map_some, ev_sound hO hG hx]; rfl, .inr ⟨n, k, h.symm, rfl⟩⟩
def loN : Option Int → Int
 | none => 0
 | some n => n
def hiN (len : Nat) : Option Int → Int
 | none => len
 | some n => n
def catOf (od : Look) (G : List (Nat × Bool)) (op : Op) : Option (List UInt8 × List UInt8) :=
 match op with
 | .binOp .add _ x y _ => match ev od G x, ev od G y with
  | some (.v (.string ⟨⟨a⟩⟩)), some (.v (.string ⟨⟨b⟩⟩)) => some (a, b)
  | _, _ => none
 | _ => none
section
variable {C : Ctx} (hT : TOk C.P C.T) {listed : List Bool} {ends : List Nat} {n0 : Nat} {mask : List Nat} {V1 : View} {m' : Nat} {o : Oper} {rest all : List Oper} {lr : List REnt} {k : List Kt} {L : Fr} {M : List OB} {V : View} {G : List (Nat × Bool)} {d i m : Nat}
include hT
theorem Exec.fidx {p : List (Nat × Bool)} {l : List UInt8} {n : Int} (hh : headX C.nt all lr i L = some (o, G, d)) (hm : m' = m + 1) (hc : idxOf C.T (opd L lr) G o.op = some (l, n)) (hb : Imp lr G (0 ≤ n ∧ n < l.length))
  (h : Exec C ⟨.draw ⟨all, setT listed i, m, ends, n0, mask, V1, p, ⟨d, G, .v (.int .u8 (byteAt l n.toNat)), d⟩ :: lr⟩ :: k, nextL G d (.v (.int .u8 (byteAt l n.toNat))) L, M⟩ V) : Exec C ⟨.draw ⟨all, listed, m', ends, n0, mask, V1, (i, true) :: p, lr⟩ :: k, L, M⟩ V :=
 Exec.fyields (x := .v (.int .u8 (byteAt l n.toNat))) hh hm (fun _ _ w h3 h4 _ _ hG => ⟨trivial, idx_run hT (opd_sound h3 h4) hG hc (hb.out h4 hG) w⟩) h
theorem Exec.fia {p : List (Nat × Bool)} {a : Option Addr} {len sz : Nat} {n : Int} (hh : headX C.nt all lr i L = some (o, G, d)) (hm : m' = m + 1) (hc : iaOf C.T (opd L lr) G o.op = some (a, len, n, sz)) (hb : Imp lr G (0 ≤ n ∧ n < len ∧ ∃ b o, a = some ⟨b, o, none⟩))
  (h : Exec C ⟨.draw ⟨all, setT listed i, m, ends, n0, mask, V1, p, ⟨d, G, .el a (n.toNat * sz), d⟩ :: lr⟩ :: k, nextL G d (.el a (n.toNat * sz)) L, M⟩ V) : Exec C ⟨.draw ⟨all, listed, m', ends, n0, mask, V1, (i, true) :: p, lr⟩ :: k, L, M⟩ V :=
 Exec.fyields (x := .el a (n.toNat * sz)) hh hm (fun _ _ w h3 h4 _ _ hG => ⟨(hb.out h4 hG).2.2, ia_run hT (opd_sound h3 h4) hG hc (hb.out h4 hG) w⟩) h
theorem Exec.fld {p : List (Nat × Bool)} {a : Option Addr} {off : Nat} {dd : TyD} {cs : List Value} {x : Value} (hh : headX C.nt all lr i L = some (o, G, d)) (hm : m' = m + 1) (hc : ldOf C.T (opd L lr) G o.op = some (a, off, dd)) (hb : Imp lr G (RdAt V1 a off cs))
  (hsz : cs.length = dd.size) (hx : cellsVal dd.und.agg cs = x)
  (h : Exec C ⟨.draw ⟨all, setT listed i, m, ends, n0, mask, V1, p, ⟨d, G, .v x, d⟩ :: lr⟩ :: k, nextL G d (.v x) L, M⟩ V) : Exec C ⟨.draw ⟨all, listed, m', ends, n0, mask, V1, (i, true) :: p, lr⟩ :: k, L, M⟩ V :=
 Exec.fyields (x := .v x) hh hm (fun _ _ w h3 h4 hV _ hG => ⟨trivial, ld_run hT (opd_sound h3 h4) hG hc (hb.out h4 hG) hsz hx hV⟩) h
theorem Exec.fldR (r : Nat) {p : List (Nat × Bool)} {a : Option Addr} {off n c e sz : Nat} {dd : TyD} {cs l : List Value} {x : Value} (hh : headX C.nt all lr i L = some (o, G, d)) (hm : m' = m + 1) (hc : ldOf C.T (opd L lr) G o.op = some (a, off, dd))
  (hi : nth (rdM mask 0 n0 M) r = some (.row (.slice a n c) cs e sz)) (hb : Imp lr G (CellsAt cs off l ∧ ∃ b o, a = some ⟨b, o, none⟩)) (hsz : l.length = dd.size) (hx : cellsVal dd.und.agg l = x)
  (h : Exec C ⟨.draw ⟨all, setT listed i, m, ends, n0, mask, V1, p, ⟨d, G, .v x, d⟩ :: lr⟩ :: k, nextL G d (.v x) L, M⟩ V) : Exec C ⟨.draw ⟨all, listed, m', ends, n0, mask, V1, (i, true) :: p, lr⟩ :: k, L, M⟩ V :=
 Exec.fyields (x := .v x) hh hm (fun _ _ w h3 h4 hV hM hG => ⟨trivial, by
  rw [nth_eq] at hi
  obtain ⟨hl, b, o', rfl⟩ := hb.out h4 hG
  exact ld_runC hT (opd_sound h3 h4) hG hc rfl (rowSat_cell (hM.2 r _ _ _ _ hi) rfl hl) hsz hx⟩) h
end
end Go.Proofs.YtglnnhmmipopiaaGreat

set_option linter.all false
namespace Go.Proofs.YtglnnhmmipopiaaGreat
abbrev OB.unk : OB := .row (.slice none 0 0) [] 0 0
def bytesTy (T : List TyD) (t : Nat) : Option Nat :=
 match nth T t with
 | some d => match d.size, d.und with
  | _ + 1, .slice e => match nth T e with
   | some ⟨1, 1, .int .u8, [.int .u8 0], _⟩ => some e
   | _ => none
  | _, _ => none
 | none => none
theorem bytesTy_sound {P : Program} {T : List TyD} (hT : TOk P T) {t e : Nat} (h : bytesTy T t = some e) : P.underlying t = some (.slice e) ∧ P.underlying e = some (.int .u8) ∧
  ∃ i z, P.info? e = some i ∧ i.zero = some z ∧ i.size = 1 ∧ i.bytes = 1 ∧ z.cells.toList = [.int .u8 0] := by
 unfold bytesTy at h
 split at h <;> try (simp at h; done)
 rename_i d hd
 split at h <;> try (simp at h; done)
 rename_i n e' hs hu
 split at h <;> try (simp at h; done)
 rename_i eq hed
 simp only [Option.some.injEq] at h; subst h
 refine ⟨t_slice hT hd (by omega) hu, t_int hT hed (by simp) rfl, ?_⟩
 obtain ⟨i, dd, z, h1, h2, h3, h4⟩ := tyD_some (hT.1 _ _ hed (by simp))
 simp only [TyD.mk.injEq] at h4
 obtain ⟨g1, g2, _, g3, _⟩ := h4
 exact ⟨i, z, h1, h3, g1.symm, g2.symm, g3.symm⟩
section
variable {C : Ctx} (hT : TOk C.P C.T) {o : Oper} {rest all : List Oper} {lr : List REnt} {k : List Kt} {L : Fr} {M M' : List OB} {V : View} {d : Nat}
include hT
end
end Go.Proofs.YtglnnhmmipopiaaGreat

set_option linter.all false
namespace Go.Proofs.YtglnnhmmipopiaaGreat
theorem OB.own_block {b : Nat} {a a' : Addr} (h : a'.block = a.block) : ∀ {o : OB}, o.own b a → o.own b a'
 | .gone, h' => h'.elim
 | .blk _ _, h' => h.trans h'
 | .row x _ _ _, h' => by simp only [OB.own] at h' ⊢; rw [h]; exact h'
theorem OB.sat_of {env env' : List Nat} {M M' : List OB} {w w' : World} {b b' : Nat} (hb : b' = b) (hden : ∀ x : SV, x.ok M → den env' x = den env x) (hok : ∀ x : SV, x.ok M → x.ok M') :
  ∀ {o : OB}, o.sat env M w b → (∀ k, o.own b ⟨k, 0, none⟩ → w'.heap[k]? = w.heap[k]?) → o.sat env' M' w' b'
 | .gone, _, _ => trivial
 | .blk cs ty, h, hk => by
  subst hb
  refine ⟨?_, fun x hx => hok x (h.2 x hx)⟩
  rw [hk _ rfl, h.1]
  congr 3
  exact List.map_congr_left fun x hx => (hden x (h.2 x hx)).symm
 | .row x cs e sz, h, hk => rowSat_of h fun g hg => hk g hg
theorem WOk.updV {V0 V V' : View} {FR : Frm} {env : List Nat} {M : List OB} {w w' : World} (h : WOk V0 FR env V M w) {i : Nat} {o o' : OB} (hi : M[i]? = some o) (hne : o' ≠ .gone)
  (e1 : w'.os = w.os) (e2 : w'.tape = w.tape) (e3 : w'.output = w.output) (hother : ∀ k, k < w.heap.size → ¬ o.own (envAt env i) ⟨k, 0, none⟩ → w'.heap[k]? = w.heap[k]?)
  (hsat : o'.sat env (M.set i o') w' (envAt env i)) (hown : ∀ a, o'.own (envAt env i) a → o.own (envAt env i) a ∨ w.heap.size ≤ a.block)
  (hV : VLe V V') (hH : Holds V' w') (hVn : ∀ a x, V' a = some x → V a = some x ∨ w.heap.size ≤ a.block ∨ o.own (envAt env i) a) (hVo : ∀ a, o'.own (envAt env i) a → V' a = none) : WOk V0 FR env V' (M.set i o') w' := by
 have hf : ∀ b o, FR.blk b = some o → b < w.heap.size := fun b o ho => (Array.getElem?_eq_some_iff.1 (h.frame b o ho)).1
 have hget : ∀ (j : Nat) (q : OB), (M.set i o')[j]? = some q → (j ≠ i ∧ M[j]? = some q) ∨ (j = i ∧ q = o') := by
  intro j q hq
  rw [List.getElem?_set] at hq
  split at hq
  ·rename_i hj
   subst hj
   split at hq
   ·simp only [Option.some.injEq] at hq
    exact .inr ⟨rfl, hq.symm⟩
   ·simp at hq
  ·rename_i hj
   exact .inl ⟨fun e => hj e.symm, hq⟩
 have hfo : ∀ a : Addr, w.heap.size ≤ a.block → FR.blk a.block = none := fun a ha => by
  cases hv : FR.blk a.block with
  | none => rfl
  | some x => have := hf _ x hv; omega
 refine ⟨e1.trans h.os, e2.trans h.tape, e3.trans h.output, ?_, h.le.trans hV, hH, ?_, by simp [h.len], ?_, ?_, ?_, ?_⟩
 ·intro b q hq
  rw [hother b (hf b q hq) (fun ho => by have := h.apartF i o _ hi ho; simp only at this; rw [this] at hq; simp at hq)]
  exact h.frame b q hq
 ·intro a x hx
  rcases hVn a x hx with hx | hx | hx
  ·exact h.fresh a x hx
  ·exact .inr (hfo a hx)
  ·exact .inr (h.apartF i o a hi hx)
 ·intro j q hq
  rcases hget j q hq with ⟨hj, hq1⟩ | ⟨hj, he⟩
  ·refine OB.sat_of rfl (fun _ _ => rfl) (fun x => SV.ok_mono fun _ => alive_set hne) (h.sat j q hq1) fun k hk => ?_
   exact hother k (OB.own_lt (h.sat j q hq1) hk) fun ho => h.apart j i q o _ hj hq1 hi hk ho
  ·subst he; subst hj
   exact hsat
 ·intro j q a hq ha
  rcases hget j q hq with ⟨hj, hq1⟩ | ⟨hj, he⟩
  ·cases hv : V' a with
   | none => rfl
   | some x =>
    rcases hVn a x hv with hx | hx | hx
    ·rw [h.apartV j q a hq1 ha] at hx; simp at hx
    ·have := OB.own_lt (h.sat j q hq1) ha; omega
    ·exact absurd hx (h.apart j i q o a hj hq1 hi ha)
  ·subst he; subst hj
   exact hVo a ha
 ·intro j q a hq ha
  rcases hget j q hq with ⟨hj, hq1⟩ | ⟨hj, he⟩
  ·exact h.apartF j q a hq1 ha
  ·subst he; subst hj
   rcases hown a ha with ha | ha
   ·exact h.apartF j o a hi ha
   ·exact hfo a ha
 ·intro j k q q' a hjk hq hq' ha ha'
  rcases hget j q hq with ⟨hj, hq1⟩ | ⟨hj, he⟩
  ·rcases hget k q' hq' with ⟨hk, hq1'⟩ | ⟨hk, he'⟩
   ·exact h.apart j k q q' a hjk hq1 hq1' ha ha'
   ·subst he'; subst hk
    rcases hown a ha' with ha' | ha'
    ·exact h.apart j k q o a hjk hq1 hi ha ha'
    ·have := OB.own_lt (h.sat j q hq1) ha; omega
  ·subst he; subst hj
   rcases hget k q' hq' with ⟨hk, hq1'⟩ | ⟨hk, he'⟩
   ·rcases hown a ha with ha | ha
    ·exact h.apart j k o q' a hjk hi hq1' ha ha'
    ·have := OB.own_lt (h.sat k q' hq1') ha'; omega
   ·exact hjk hk.symm
theorem WOk.upd {V0 V : View} {FR : Frm} {env : List Nat} {M : List OB} {w w' : World} (h : WOk V0 FR env V M w) {i : Nat} {o o' : OB} (hi : M[i]? = some o) (hne : o' ≠ .gone)
  (e1 : w'.os = w.os) (e2 : w'.tape = w.tape) (e3 : w'.output = w.output) (hother : ∀ k, k < w.heap.size → ¬ o.own (envAt env i) ⟨k, 0, none⟩ → w'.heap[k]? = w.heap[k]?)
  (hsat : o'.sat env (M.set i o') w' (envAt env i)) (hown : ∀ a, o'.own (envAt env i) a → o.own (envAt env i) a ∨ w.heap.size ≤ a.block) : WOk V0 FR env V (M.set i o') w' := by
 have hb : ∀ a x, V a = some x → a.block < w.heap.size := fun a x hx => World.block_lt_of_cell? w a (h.holds a x hx)
 refine h.updV hi hne e1 e2 e3 hother hsat hown (VLe.refl V) ?_ (fun a x hx => .inl hx) ?_
 ·intro a x hx
  have hc := h.holds a x hx
  have := hother a.block (hb a x hx) (fun ho => by have := h.apartV i o a hi (OB.own_block (a := ⟨a.block, 0, none⟩) (a' := a) rfl ho); rw [this] at hx; simp at hx)
  unfold World.cell? at hc ⊢
  rw [this]
  exact hc
 ·intro a ha
  rcases hown a ha with ha | ha
  ·exact h.apartV i o a hi ha
  ·cases hv : V a with
   | none => rfl
   | some x => have := hb a x hv; omega
theorem WOk.add {V0 V : View} {FR : Frm} {env : List Nat} {M : List OB} {w w' : World} (h : WOk V0 FR env V M w) {o' : OB} (b : Nat)
  (e1 : w'.os = w.os) (e2 : w'.tape = w.tape) (e3 : w'.output = w.output) (hother : ∀ k, k < w.heap.size → w'.heap[k]? = w.heap[k]?)
  (hsat : o'.sat (env ++ [b]) (M ++ [o']) w' b) (hown : ∀ a, o'.own b a → w.heap.size ≤ a.block) : WOk V0 FR (env ++ [b]) V (M ++ [o']) w' := by
 have hb : ∀ a x, V a = some x → a.block < w.heap.size := fun a x hx => World.block_lt_of_cell? w a (h.holds a x hx)
 have hf : ∀ b o, FR.blk b = some o → b < w.heap.size := fun b o ho => (Array.getElem?_eq_some_iff.1 (h.frame b o ho)).1
 have hold : ∀ (i : Nat) (o : OB), M[i]? = some o → envAt (env ++ [b]) i = envAt env i := fun i o ho => envAt_append (by rw [h.len]; exact (List.getElem?_eq_some_iff.1 ho).1)
 have hnew : envAt (env ++ [b]) M.length = b := by rw [← h.len]; exact envAt_new env b
 have hget : ∀ (i : Nat) (o : OB), (M ++ [o'])[i]? = some o → M[i]? = some o ∨ (i = M.length ∧ o = o') := by
  intro i o ho
  rw [List.getElem?_append] at ho
  split at ho
  ·exact .inl ho
  ·rename_i hi
   right
   have : i - M.length = 0 := by
    refine Classical.byContradiction fun hc => ?_
    obtain ⟨k, hk⟩ : ∃ k, i - M.length = k + 1 := ⟨i - M.length - 1, by omega⟩
    rw [hk] at ho
    simp at ho
   rw [this] at ho
   simp at ho
   exact ⟨by omega, ho.symm⟩
 refine ⟨e1.trans h.os, e2.trans h.tape, e3.trans h.output, fun b o ho => by rw [hother b (hf b o ho)]; exact h.frame b o ho, h.le, ?_, h.fresh, by simp [h.len], ?_, ?_, ?_, ?_⟩
 ·intro a x hx
  have hc := h.holds a x hx
  unfold World.cell? at hc ⊢
  rw [hother _ (hb a x hx)]
  exact hc
 ·intro i o ho
  rcases hget i o ho with ho1 | ⟨hi, he⟩
  ·exact OB.sat_of (hold i o ho1) (fun x hx => den_append h.len hx) (fun x => SV.ok_mono fun _ => alive_snoc _) (h.sat i o ho1) fun k hk => hother k (OB.own_lt (h.sat i o ho1) hk)
  ·subst he; subst hi
   rw [hnew]
   exact hsat
 ·intro i o a ho ha
  rcases hget i o ho with ho1 | ⟨hi, he⟩
  ·rw [hold i o ho1] at ha
   exact h.apartV i o a ho1 ha
  ·subst he; subst hi
   rw [hnew] at ha
   have := hown a ha
   cases hv : V a with
   | none => rfl
   | some x => have := hb a x hv; omega
 ·intro i o a ho ha
  rcases hget i o ho with ho1 | ⟨hi, he⟩
  ·rw [hold i o ho1] at ha
   exact h.apartF i o a ho1 ha
  ·subst he; subst hi
   rw [hnew] at ha
   have := hown a ha
   cases hv : FR.blk a.block with
   | none => rfl
   | some x => have := hf _ x hv; omega
 ·intro i j o q a hij ho hq ha ha'
  rcases hget i o ho with ho1 | ⟨hi, he⟩
  ·rw [hold i o ho1] at ha
   rcases hget j q hq with hq1 | ⟨hj, he'⟩
   ·rw [hold j q hq1] at ha'
    exact h.apart i j o q a hij ho1 hq1 ha ha'
   ·subst he'; subst hj
    rw [hnew] at ha'
    have := hown a ha'
    have := OB.own_lt (h.sat i o ho1) ha
    omega
  ·subst he; subst hi
   rw [hnew] at ha
   have := hown a ha
   rcases hget j q hq with hq1 | ⟨hj, he'⟩
   ·rw [hold j q hq1] at ha'
    have := OB.own_lt (h.sat j q hq1) ha'
    omega
   ·exact hij hj.symm
theorem WOk.freeze {V0 V : View} {FR : Frm} {env : List Nat} {M : List OB} {w : World} (h : WOk V0 FR env V M w) {i n c e sz : Nat} {a : Option Addr} {cs : List Value} (hi : M[i]? = some (.row (.slice a n c) cs e sz)) :
  ∃ V', VLe V V' ∧ (cs ≠ [] → RdAt V' a 0 cs) ∧ WOk V0 FR env V' (M.set i .unk) w := by
 obtain ⟨n', hrow⟩ := h.sat i _ hi
 have hcell : ∀ p : Addr, (Value.slice a n c).ownBlock = some p.block → p.spot = none → ∀ y, cs[p.off]? = some y → w.cell? p = some y := by
  intro p hp hs y hy
  have := hrow.cells hp p.off y hy
  rw [Addr.add_lit] at this
  cases p
  simp only at hs
  subst hs
  simpa using this
 refine ⟨fun p => match V p with
  | some y => some y
  | none => if (Value.slice a n c).ownBlock = some p.block ∧ p.spot = none then cs[p.off]? else none, ?_, ?_, ?_⟩
 ·intro p y hy
  simp only [hy]
 ·intro hne
  rcases hrow.2 with ⟨hv, hn⟩ | ⟨g, cap, cur, hv, _⟩
  ·have : cs.length = 0 := by rw [hrow.1, hn]; simp
   exact absurd (List.length_eq_zero_iff.1 this) hne
  ·simp only [Value.slice.injEq] at hv
   obtain ⟨rfl, _, _⟩ := hv
   refine ⟨g, 0, rfl, fun j y hy => ?_⟩
   have : V ⟨g, 0 + 0 + j, none⟩ = none := h.apartV i _ ⟨g, 0 + 0 + j, none⟩ hi rfl
   simp only [this, Value.ownBlock, and_self, if_true]
   simpa using hy
 ·have hget : ∀ (j : Nat) (q : OB), (M.set i .unk)[j]? = some q → (j ≠ i ∧ M[j]? = some q) ∨ (j = i ∧ q = .unk) := by
   intro j q hq
   rw [List.getElem?_set] at hq
   split at hq
   ·rename_i hj
    subst hj
    split at hq
    ·simp only [Option.some.injEq] at hq
     exact .inr ⟨rfl, hq.symm⟩
    ·simp at hq
   ·rename_i hj
    exact .inl ⟨fun e => hj e.symm, hq⟩
  have hgown : ∀ (j : Nat) (q : OB) p, (M.set i .unk)[j]? = some q → q.own (envAt env j) p → j ≠ i ∧ M[j]? = some q := by
   intro j q p hq hp
   rcases hget j q hq with ⟨hj, hq1⟩ | ⟨hj, he⟩
   ·exact ⟨hj, hq1⟩
   ·subst he
    simp [OB.own, Value.ownBlock] at hp
  refine ⟨h.os, h.tape, h.output, h.frame, fun p y hy => by simp only [h.le p y hy], ?_, ?_, by simp [h.len], ?_, ?_, ?_, ?_⟩
  ·intro p y hy
   try simp only at hy
   split at hy
   ·rename_i z hz
    simp only [Option.some.injEq] at hy; subst hy
    exact h.holds p _ hz
   ·split at hy
    ·rename_i hp
     exact hcell p hp.1 hp.2 y hy
    ·simp at hy
  ·intro p y hy
   try simp only at hy
   split at hy
   ·rename_i z hz
    simp only [Option.some.injEq] at hy; subst hy
    exact h.fresh p _ hz
   ·split at hy
    ·rename_i hp
     exact .inr (h.apartF i _ p hi hp.1)
    ·simp at hy
  ·intro j q hq
   rcases hget j q hq with ⟨hj, hq1⟩ | ⟨hj, he⟩
   ·exact OB.sat_of rfl (fun _ _ => rfl) (fun x => SV.ok_mono fun _ => alive_set (by simp)) (h.sat j q hq1) fun k hk => rfl
   ·subst he
    exact ⟨0, World.ownsRow_nil _ _ _ _⟩
  ·intro j q p hq hp
   obtain ⟨hj, hq⟩ := hgown j q p hq hp
   simp only [h.apartV j q p hq hp]
   rw [if_neg]
   rintro ⟨h1, _⟩
   exact h.apart j i q _ p hj hq hi hp h1
  ·intro j q p hq hp
   obtain ⟨hj, hq⟩ := hgown j q p hq hp
   exact h.apartF j q p hq hp
  ·intro j k q q' p hjk hq hq' hp hp'
   obtain ⟨_, hq⟩ := hgown j q p hq hp
   obtain ⟨_, hq'⟩ := hgown k q' p hq' hp'
   exact h.apart j k q q' p hjk hq hq' hp hp'

/-! ### Rules that stand at no operation -/
section
variable {C : Ctx}
theorem Exec.row0 (e sz : Nat) {k : List Kt} {L : Fr} {M M' : List OB} {V : View} {i : Nat} (hs : snocN M (.row (.slice none 0 0) [] e sz) 0 = some (M', i)) (h : Exec C ⟨k, L, M'⟩ V) : Exec C ⟨k, L, M⟩ V := by
 obtain ⟨rfl, _⟩ := snocN_sound hs
 refine Exec.of fun FR DF env t w h1 h2 h3 h4 h5 => ?_
 have hW := h2.add (w' := w) (o' := .row (.slice none 0 0) [] e sz) 0 rfl rfl rfl (fun _ _ => rfl) ⟨0, World.ownsRow_nil _ _ _ _⟩ (fun a ha => by simp [OB.own, Value.ownBlock] at ha)
 exact h.to FR DF (env ++ [0]) t w h1 hW (h3.mono h2.len _ _) (h4.mono h2.len _ _) (DOk.grow ⟨_, rfl⟩ (VLe.refl V) ⟨_, rfl⟩ h5)
def plainK : List Kt → Bool
 | .draw _ :: _ => false
 | .ops _ _ _ :: .draw _ :: _ => false
 | _ => true
theorem plainK_D {k : List Kt} (hk : plainK k = true) (DF : DFr) (env : List Nat) (V : View) (M : List OB) : DOk DF env V M k := by
 unfold plainK at hk
 split at hk
 ·simp at hk
 ·simp at hk
 ·rename_i h1 h2
  unfold DOk
  split
  ·exact absurd rfl (h1 _ _)
  ·exact absurd rfl (h2 _ _ _ _ _)
  ·trivial
def frzOk (i : Nat) : List Kt → Bool
 | .ops _ _ _ :: k => wrOk i k
 | k => plainK k
theorem frzOk_D {i : Nat} {k : List Kt} (hk : frzOk i k = true) {DF : DFr} {env : List Nat} {V V' : View} {M : List OB} {b : OB} (hv : VLe V V') (h : DOk DF env V M k) : DOk DF env V' (M.set i b) k := by
 unfold frzOk at hk
 split at hk
 ·exact DOk.grow (M := M.set i b) ⟨[], by simp⟩ hv ⟨[], by simp⟩ (DOk.write hk h)
 ·exact plainK_D hk _ _ _ _
theorem Exec.frz (i : Nat) {k : List Kt} {L : Fr} {M M' : List OB} {V : View} {n c e sz : Nat} {a : Option Addr} {cs : List Value} (hk : frzOk i k = true) (hi : nth M i = some (.row (.slice a n c) cs e sz)) (hs : setN M i .unk = some M')
  (h : ∀ V', VLe V V' → (cs ≠ [] → RdAt V' a 0 cs) → n ≤ c → Exec C ⟨k, L, M'⟩ V') : Exec C ⟨k, L, M⟩ V := by
 obtain ⟨_, rfl⟩ := setN_sound hs
 rw [nth_eq] at hi
 refine Exec.of fun FR DF env t w h1 h2 h3 h4 h5 => ?_
 obtain ⟨V', v1, v2, hW⟩ := h2.freeze hi
 exact (h V' v1 v2 (rowSat_some (h2.sat i _ hi)).2.1).to FR DF env t w h1 hW (h3.set (by simp)) (h4.set (by simp)) (frzOk_D hk v1 h5)
def refOk (n : Nat) : SV → Bool
 | .ptr i _ => Nat.blt i n
 | .slc i _ _ _ => Nat.blt i n
 | _ => true
def refsOk (n : Nat) : Fr → Bool
 | [] => true
 | (_, x) :: r => match refOk n x with
  | true => refsOk n r
  | false => false
def allV : List SV → Bool
 | [] => true
 | .v _ :: r => allV r
 | _ => false
def rowsOnly : List OB → Bool
 | [] => true
 | .row _ _ _ _ :: r => rowsOnly r
 | .blk cs _ :: r => match allV cs with
  | true => rowsOnly r
  | false => false
 | _ => false
theorem allV_mem : ∀ {cs : List SV}, allV cs = true → ∀ x ∈ cs, ∃ a, x = .v a
 | [], _, x, hx => by simp at hx
 | .v a :: r, h, x, hx => by
  simp only [List.mem_cons] at hx
  rcases hx with rfl | hx
  ·exact ⟨a, rfl⟩
  ·exact allV_mem (cs := r) h x hx
 | .ptr _ _ :: r, h, x, hx => by simp [allV] at h
 | .slc _ _ _ _ :: r, h, x, hx => by simp [allV] at h
 | .el _ _ :: r, h, x, hx => by simp [allV] at h
theorem allV_ok {M : List OB} : ∀ {cs : List SV}, allV cs = true → ∀ x ∈ cs, x.ok M
 | [], _, x, hx => by simp at hx
 | .v a :: r, h, x, hx => by
  simp only [List.mem_cons] at hx
  rcases hx with rfl | hx
  ·trivial
  ·exact allV_ok (cs := r) h x hx
 | .ptr _ _ :: r, h, x, hx => by simp [allV] at h
 | .slc _ _ _ _ :: r, h, x, hx => by simp [allV] at h
 | .el _ _ :: r, h, x, hx => by simp [allV] at h
theorem alive_take {M : List OB} {n i : Nat} (h : alive M i) (hn : i < n) : alive (M.take n) i := by
 obtain ⟨o, h1, h2⟩ := h
 exact ⟨o, by rw [List.getElem?_take, if_pos hn]; exact h1, h2⟩
theorem ok_take {M : List OB} {n : Nat} : ∀ {x : SV}, x.ok M → refOk n x = true → x.ok (M.take n)
 | .v _, _, _ => trivial
 | .ptr _ _, h, hr => alive_take h (by simpa [refOk, Nat.blt_eq] using hr)
 | .slc _ _ _ _, h, hr => alive_take h (by simpa [refOk, Nat.blt_eq] using hr)
 | .el _ _, h, _ => h
theorem refsOk_look {n : Nat} : ∀ {L : Fr} {s : Nat} {x : SV}, refsOk n L = true → lookL L s = some x → refOk n x = true
 | [], s, x, _, h => by simp [lookL] at h
 | (d, y) :: L, s, x, hr, h => by
  simp only [refsOk] at hr
  split at hr
  ·rename_i hy
   rw [lookL_cons] at h
   split at h
   ·simp only [Option.some.injEq] at h; subst h; exact hy
   ·exact refsOk_look hr h
  ·simp at hr
theorem rowsOnly_get : ∀ {M : List OB} {i : Nat} {o : OB}, rowsOnly M = true → M[i]? = some o → (∃ x cs e sz, o = .row x cs e sz) ∨ ∃ cs ty, o = .blk cs ty ∧ allV cs = true
 | [], i, o, _, h => by simp at h
 | .gone :: M, i, o, hr, h => by simp [rowsOnly] at hr
 | .row x cs e sz :: M, 0, o, hr, h => by
  simp at h
  exact .inl ⟨x, cs, e, sz, h.symm⟩
 | .row x cs e sz :: M, i + 1, o, hr, h => by
  simp at h
  exact rowsOnly_get (M := M) hr h
 | .blk cs ty :: M, 0, o, hr, h => by
  simp at h
  simp only [rowsOnly] at hr
  split at hr
  ·rename_i hv
   exact .inr ⟨cs, ty, h.symm, hv⟩
  ·simp at hr
 | .blk cs ty :: M, i + 1, o, hr, h => by
  simp at h
  simp only [rowsOnly] at hr
  split at hr
  ·exact rowsOnly_get (M := M) hr h
  ·simp at hr
theorem Exec.cut (n : Nat) (L' : Fr) {k : List Kt} {L : Fr} {M M' : List OB} {V : View} (hk : noOps k = true) (hs : Sub L' L) (hr : refsOk n L' = true) (hM : takeL n M = M') (hrow : rowsOnly M' = true)
  (h : Exec C ⟨k, L', M'⟩ V) : Exec C ⟨k, L, M⟩ V := by
 have htk : ∀ (n : Nat) (l : List OB), takeL n l = l.take n := by
  intro n
  induction n with
  | zero => intro l; simp [takeL]
  | succ n ih =>
   intro l
   cases l with
   | nil => simp [takeL]
   | cons a l => simp [takeL, ih]
 rw [htk] at hM
 subst hM
 refine Exec.of fun FR DF env t w h1 h2 h3 h4 h5 => ?_
 have hget : ∀ (i : Nat) (o : OB), (M.take n)[i]? = some o → M[i]? = some o ∧ i < n := by
  intro i o ho
  rw [List.getElem?_take] at ho
  split at ho
  ·rename_i hi; exact ⟨ho, hi⟩
  ·simp at ho
 have henv : ∀ i, i < n → envAt (env.take n) i = envAt env i := fun i hi => by simp [envAt, List.getElem?_take, hi]
 have hden : ∀ x, refOk n x = true → den (env.take n) x = den env x := by
  intro x hx
  cases x with
  | v _ => rfl
  | el _ _ => rfl
  | ptr i o => simp only [den]; rw [henv i (by simpa [refOk, Nat.blt_eq] using hx)]
  | slc i o _ _ => simp only [den]; rw [henv i (by simpa [refOk, Nat.blt_eq] using hx)]
 have hW : WOk C.V0 FR (env.take n) V (M.take n) w := by
  refine ⟨h2.os, h2.tape, h2.output, h2.frame, h2.le, h2.holds, h2.fresh, by simp [h2.len], ?_, ?_, ?_, ?_⟩
  ·intro i o ho
   obtain ⟨g1, g2⟩ := hget i o ho
   have := h2.sat i o g1
   rw [henv i g2]
   rcases rowsOnly_get hrow ho with ⟨x, cs, e, sz, rfl⟩ | ⟨cs, ty, rfl, hv⟩
   ·exact this
   ·refine ⟨?_, allV_ok hv⟩
    rw [this.1]
    congr 3
    refine List.map_congr_left fun y hy => ?_
    cases y with
    | v _ => rfl
    | _ => exact absurd (allV_mem hv _ hy) (by simp)
  ·intro i o a ho ha
   obtain ⟨g1, g2⟩ := hget i o ho
   rw [henv i g2] at ha
   exact h2.apartV i o a g1 ha
  ·intro i o a ho ha
   obtain ⟨g1, g2⟩ := hget i o ho
   rw [henv i g2] at ha
   exact h2.apartF i o a g1 ha
  ·intro i j o q a hij ho hq ha ha'
   obtain ⟨g1, g2⟩ := hget i o ho
   obtain ⟨g3, g4⟩ := hget j q hq
   rw [henv i g2] at ha
   rw [henv j g4] at ha'
   exact h2.apart i j o q a hij g1 g3 ha ha'
 refine h.to0 hk h1 hW (fun s x hx => ?_) DF
 obtain ⟨k1, k2⟩ := h3 s x (hs.look s x hx)
 have hrx := refsOk_look hr hx
 exact ⟨by rw [hden x hrx]; exact k1, ok_take k2 hrx⟩
end
end Go.Proofs.YtglnnhmmipopiaaGreat

set_option linter.all false
namespace Go.Proofs.YtglnnhmmipopiaaGreat
def sliceTy (T : List TyD) (t : Nat) : Option (Nat × Nat × Nat × List Value) :=
 match nth T t with
 | some d => match d.size, d.und with
  | _ + 1, .slice e => match nth T e with
   | some ed => match ed.size with
    | 0 => none
    | sz + 1 => match Nat.beq ed.zero.length (sz + 1), Nat.beq ed.bytes 0 with
     | true, false => some (e, sz + 1, ed.bytes, ed.zero)
     | _, _ => none
   | none => none
  | _, _ => none
 | none => none
theorem sliceTy_sound {P : Program} {T : List TyD} (hT : TOk P T) {t e sz bys : Nat} {zs : List Value} (h : sliceTy T t = some (e, sz, bys, zs)) :
  P.underlying t = some (.slice e) ∧ 0 < sz ∧ 0 < bys ∧ zs.length = sz ∧ ∃ i z, P.info? e = some i ∧ i.zero = some z ∧ i.size = sz ∧ i.bytes = bys ∧ z.cells.size = sz ∧ z.cells.toList = zs := by
 unfold sliceTy at h
 split at h <;> try (simp at h; done)
 rename_i d hd
 split at h <;> try (simp at h; done)
 rename_i n e' hs hu
 split at h <;> try (simp at h; done)
 rename_i ed hed
 split at h <;> try (simp at h; done)
 rename_i sz' hsz
 split at h <;> try (simp at h; done)
 rename_i hz hb
 simp only [Option.some.injEq, Prod.mk.injEq] at h
 obtain ⟨rfl, rfl, rfl, rfl⟩ := h
 have hz' := beq_nat hz
 have hb' := beq_nat_false hb
 obtain ⟨i, dd, z, h1, h2, h3, h4⟩ := tyD_some (hT.1 _ _ hed (by omega))
 subst h4
 simp only at hz' hb' hsz ⊢
 exact ⟨t_slice hT hd (by omega) hu, by omega, by omega, hz', i, z, h1, h3, hsz, rfl, by simpa using hz', rfl⟩
def appTy (T : List TyD) (op : Op) : Option (Operand × Operand × Nat × Nat × Nat × Nat) :=
 match op with
 | .call ⟨.builtin .append, ⟨[sa, sb]⟩, ⟨[t, t']⟩⟩ => match Nat.beq t t', sliceTy T t with
  | true, some (e, sz, bys, _) => some (sa, sb, t, e, sz, bys)
  | _, _ => none
 | _ => none
theorem appTy_op {T : List TyD} {op : Op} {sa sb : Operand} {t e sz bys : Nat} (h : appTy T op = some (sa, sb, t, e, sz, bys)) :
  op = .call ⟨.builtin .append, #[sa, sb], #[t, t]⟩ ∧ ∃ zs, sliceTy T t = some (e, sz, bys, zs) := by
 unfold appTy at h
 split at h <;> try (simp at h; done)
 rename_i sa' sb' t1 t2
 split at h <;> try (simp at h; done)
 rename_i e' sz' bys' zs hb ht
 simp only [Option.some.injEq, Prod.mk.injEq] at h
 obtain ⟨rfl, rfl, rfl, rfl, rfl, rfl⟩ := h
 have := beq_nat hb
 subst this
 exact ⟨rfl, zs, ht⟩
theorem slice_form {w : World} {base e sz n m : Nat} {v : Value} {xs : List Value} (h : w.ownsRow base e sz v n xs) (_ : m = n) : ∃ a c, v = .slice a m c := by
 rename_i hm
 subst hm
 rcases h.2 with ⟨rfl, rfl⟩ | ⟨g, cap, cur, rfl, _⟩
 ·exact ⟨none, 0, rfl⟩
 ·exact ⟨some ⟨g, 0, none⟩, cap, rfl⟩
theorem not_own {x : Value} {k : Nat} {env : List Nat} {i : Nat} {cs : List Value} {e sz : Nat} (h : ¬ (OB.row x cs e sz).own (envAt env i) ⟨k, 0, none⟩) : some k ≠ x.ownBlock := fun he => h he.symm
section
variable {C : Ctx} (hT : TOk C.P C.T) {o : Oper} {rest all : List Oper} {lr : List REnt} {k : List Kt} {L : Fr} {M : List OB} {V : View} {d : Nat}
include hT
theorem app_core {FR : Frm} {env : List Nat} {t' : Array Value} {w : World} (h2 : WOk C.V0 FR env V M w) (h3 : LOk env M L t') (h4 : ROk env M lr t') {sa sb : Operand} {t e sz bys i n c m c2 : Nat} {a : Option Addr} {ad : Addr} {cs news : List Value}
  (hc : appTy C.T o.op = some (sa, sb, t, e, sz, bys)) (ha : ev (opd L lr) [] sa = some (.v (.slice a n c))) (hi : M[i]? = some (.row (.slice a n c) cs e sz))
  {x : Value} (hb : (⟨t', []⟩ : Act).eval sb = x) (hx : (Builtin.append_ #[t, t] o.type #[.slice a n c, x]).run C.P w = (Builtin.append_ #[t, t] o.type #[.slice a n c, .slice (some ad) m c2]).run C.P w) (hl : news.length = m * sz) (hnews : ∀ j u, news[j]? = some u → w.cell? (ad.add j) = some u) (h1 : ∀ u ∈ news, u.oneCell' = true) (hbnd : (n + m) * bys ≤ 140737488355328) :
  ∃ a' c' w', (execOp (⟨t', []⟩ : Act).eval o).run C.P w = .ok (.value (.slice a' (n + m) c')) w' ∧ WOk C.V0 FR env V (M.set i (.row (.slice a' (n + m) c') (cs ++ news) e sz)) w' := by
 obtain ⟨hop, zs, hts⟩ := appTy_op hc
 obtain ⟨u1, u2, u3, _, ti, z, i1, i2, i3, i4, i5, _⟩ := sliceTy_sound hT hts
 have hsat := h2.sat i _ hi
 obtain ⟨r1, r2, r3, r4⟩ := rowSat_some hsat
 have hle : n + m ≤ maxLen := by
  have : n + m ≤ (n + m) * bys := Nat.le_mul_of_pos_right _ u3
  simp only [maxLen]
  omega
 obtain ⟨v', w', q1, q2, q3, q4, q5⟩ := run_append_own_at (P := C.P) w 0 t o.type e ti z sz bys u1 i1 i2 i3 i4 i5 u2 _ n cs r4 ad m c2 news hl hnews h1 hle hbnd (Nat.zero_le _)
 obtain ⟨a', c', rfl⟩ := slice_form q2 rfl
 refine ⟨a', c', w', ?_, h2.upd hi (by simp) q3.os q3.tape q3.output (fun kk hk hn => q3.block kk hk (not_own hn)) ⟨_, q2⟩ (fun p hp => ?_)⟩
 ·unfold execOp
  have e1 := ev_sound (opd_sound h3 h4) (G := []) trivial ha
  simp only [den] at e1
  simp only [hop, resolve, List.map_toArray, List.map_cons, List.map_nil, e1, hb, Sem.run_bind, Sem.run_pure, Result.andThen_ok, invoke, builtin, hx, q1]
 ·simp only [OB.own] at hp ⊢
  rcases q5 with q5 | q5
  ·exact .inl (q5 ▸ hp)
  ·right
   rw [q5] at hp
   simp at hp
   omega
theorem Exec.app (i j : Nat) {sa sb : Operand} {t e sz bys n c m c2 ty nm : Nat} {a : Option Addr} {cs news : List Value} {ns : List SV} {M' : Option Addr → Nat → List OB}
  (hh : headOf C.nt all lr L o = some ([], d)) (hc : appTy C.T o.op = some (sa, sb, t, e, sz, bys)) (ha : ev (opd L lr) [] sa = some (.v (.slice a n c))) (hb : ev (opd L lr) [] sb = some (.slc j 0 m c2))
  (hi : nth M i = some (.row (.slice a n c) cs e sz)) (hj : nth M j = some (.blk ns ty)) (hv : vals ns = some news) (h1 : allOne ns = true) (hl : news.length = m * sz) (hnm : n + m = nm) (hs : ∀ a' c', setN M i (.row (.slice a' nm c') (cs ++ news) e sz) = some (M' a' c')) (hk : wrOk i k = true)
  (hbnd : nm * bys ≤ 140737488355328)
  (h : ∀ a' c', Exec C ⟨.ops rest all (⟨d, [], .v (.slice a' nm c'), d⟩ :: lr) :: k, (d, .v (.slice a' nm c')) :: L, M' a' c'⟩ V) : Exec C ⟨.ops (o :: rest) all lr :: k, L, M⟩ V := by
 subst hnm
 refine Exec.of fun FR DF env t' w g1 h2 h3 h4 h5 => ?_
 rw [nth_eq] at hi hj
 have hsj := (h2.sat j _ hj).1
 have hns := vals_sound (env := env) hv
 rw [hns] at hsj
 have hb' := ev_sound (opd_sound h3 h4) (G := []) trivial hb
 obtain ⟨a', c', w', p1, p2⟩ := app_core hT h2 h3 h4 hc ha hi (by rw [hb']; rfl) rfl hl (fun jj u hu => by
  rw [Addr.add_lit, cell_of_row w _ _ _ _ _ hsj]; simpa using hu) (fun u hu => allOne_sound (env := env) h1 u (by rw [hns]; exact hu)) hbnd
 obtain ⟨_, hM'⟩ := setN_sound (hs a' c')
 rw [← hM'] at p2
 have hal : ∀ q, alive M q → alive (M' a' c') q := fun q hq => by rw [hM']; exact alive_set (by simp) hq
 obtain ⟨hg, hd, hn, hf, _⟩ := headOf_some hh
 have hdt : d < t'.size := by rw [g1]; simpa [Nat.blt_eq] using hn
 have hw := guard_sound h4 hg
 show wpList C.P ⟨all⟩ (post C FR DF k) (o :: rest) ⟨t', []⟩ w
 refine wpList_want ?_
 rw [if_pos (hw.2 trivial)]
 refine wp_value p1 ?_
 simp only [Act.put, hd]
 have h3' : LOk env (M' a' c') L t' := fun s x hx => ⟨(h3 s x hx).1, SV.ok_mono hal (h3 s x hx).2⟩
 have h4' : ROk env (M' a' c') lr t' := by rw [hM']; exact h4.set (by simp)
 refine (h a' c').to FR DF env (t'.setIfInBounds d (.slice a' (n + m) c')) w' (by simpa using g1) p2 (h3'.put (x := .v _) hdt trivial)
  (h4'.put hdt hf (fun _ => rfl) (fun hn => absurd trivial hn) rfl (.inl rfl) (fun _ => trivial)) ?_
 show DOk DF env V (M' a' c') _
 rw [hM']
 exact DOk.write hk h5.same
def mkTy (T : List TyD) (op : Op) : Option (Operand × Operand × Nat × Nat × Nat × Nat × List Value) :=
 match op with
 | .makeSlice t x y => match sliceTy T t with
  | some (e, sz, bys, zs) => some (x, y, t, e, sz, bys, zs)
  | none => none
 | _ => none
omit hT in
theorem reps_eq (z : List Value) : ∀ n : Nat, (List.replicate n z).flatten = (List.range (n * z.length)).map (fun i => z[i % z.length]?.getD default)
 | 0 => by simp
 | n + 1 => by
  rw [List.replicate_succ, List.flatten_cons, reps_eq z n]
  apply List.ext_getElem
  ·simp [Nat.add_mul, Nat.add_comm]
  ·intro i h1 h2
   simp only [List.length_append, List.length_map, List.length_range] at h1
   rw [List.getElem_append]
   split
   ·rename_i hi
    simp [Nat.mod_eq_of_lt hi, hi]
   ·rename_i hi
    simp only [List.getElem_map, List.getElem_range]
    rw [Nat.mod_eq_sub_mod (by omega : i ≥ z.length)]
theorem Exec.mkr0 {x y : Operand} {t e sz bys n cp i : Nat} {kx ky : IntKind} {zs : List Value} {M' : Option Addr → List OB}
  (hh : headOf C.nt all lr L o = some ([], d)) (hc : mkTy C.T o.op = some (x, y, t, e, sz, bys, zs)) (ha : ev (opd L lr) [] x = some (.v (.int kx (n : Int)))) (hb : ev (opd L lr) [] y = some (.v (.int ky (cp : Int))))
  (hnc : n ≤ cp) (hbnd : bys * cp ≤ 281474976710656) (hs : ∀ a, snocN M (.row (.slice a n cp) (List.replicate n zs).flatten e sz) 0 = some (M' a, i))
  (h : ∀ a, Exec C ⟨.ops rest all (⟨d, [], .v (.slice (some a) n cp), d⟩ :: lr) :: k, (d, .v (.slice (some a) n cp)) :: L, M' (some a)⟩ V) : Exec C ⟨.ops (o :: rest) all lr :: k, L, M⟩ V := by
 refine Exec.of fun FR DF env t' w g1 h2 h3 h4 h5 => ?_
 have hop : o.op = .makeSlice t x y ∧ sliceTy C.T t = some (e, sz, bys, zs) := by
  unfold mkTy at hc
  split at hc <;> try (simp at hc; done)
  split at hc <;> try (simp at hc; done)
  rename_i ht
  simp only [Option.some.injEq, Prod.mk.injEq] at hc
  obtain ⟨rfl, rfl, rfl, rfl, rfl, rfl, rfl⟩ := hc
  exact ⟨by assumption, ht⟩
 obtain ⟨u1, u2, u3, u4, ti, z, i1, i2, i3, i4, i5, i6⟩ := sliceTy_sound hT hop.2
 have hcp : cp ≤ bys * cp := Nat.le_mul_of_pos_left _ u3
 have hm := run_make (P := C.P) w t e ti z u1 i1 i2 kx ky (n : Int) (cp : Int) (by omega) (by omega) (by rw [i4, ← Int.natCast_mul]; exact Int.ofNat_le.2 hbnd) (by omega)
 simp only [Int.toNat_natCast] at hm
 obtain ⟨hM', _⟩ := snocN_sound (hs (some ⟨w.heap.size, 0, none⟩))
 have hcells : (madeCells z.cells (cp * ti.size)).toList = (List.replicate cp zs).flatten := by
  rw [reps_eq, i3, u4]
  have hz : z.cells = ⟨zs⟩ := by apply Array.ext'; rw [i6]
  simp only [madeCells, hz, Array.toList_map, Array.toList_range]
  refine List.map_congr_left fun j _ => ?_
  simp only [List.size_toArray, u4, getElem!_def]
  have : (⟨zs⟩ : Array Value)[j % sz]? = zs[j % sz]? := by simp
  rw [this]
  cases zs[j % sz]? <;> rfl
 have hlen : (madeCells z.cells (cp * ti.size)).size = cp * sz := by simp [madeCells, i3]
 have hfl : ∀ q : Nat, (List.replicate q zs).flatten.length = q * sz := fun q => by simp [List.length_flatten, u4]
 have hsat : rowSat (w.alloc (.cells (madeCells z.cells (cp * ti.size)) e)) e sz (.slice (some ⟨w.heap.size, 0, none⟩) n cp) (List.replicate n zs).flatten := by
  refine ⟨n, hfl n, .inr ⟨w.heap.size, cp, _, rfl, Nat.zero_le _, heap_alloc_new w _, hnc, by simp only [maxLen]; omega, hlen, ?_⟩⟩
  rw [hcells]
  obtain ⟨q, rfl⟩ : ∃ q, cp = n + q := ⟨cp - n, by omega⟩
  rw [← hfl n, ← List.replicate_append_replicate, List.flatten_append]
  exact List.take_left
 have hW := h2.add (w' := w.alloc (.cells (madeCells z.cells (cp * ti.size)) e)) (o' := .row (.slice (some ⟨w.heap.size, 0, none⟩) n cp) (List.replicate n zs).flatten e sz) 0 rfl rfl rfl
  (fun kk hk => Go.RowKit.Below.heap_alloc w _ kk hk) hsat (fun p hp => by simp only [OB.own, Value.ownBlock, Option.some.injEq] at hp; omega)
 rw [← hM'] at hW
 obtain ⟨hg, hd, hn, hf, _⟩ := headOf_some hh
 have hdt : d < t'.size := by rw [g1]; simpa [Nat.blt_eq] using hn
 have hw := guard_sound h4 hg
 show wpList C.P ⟨all⟩ (post C FR DF k) (o :: rest) ⟨t', []⟩ w
 refine wpList_want ?_
 rw [if_pos (hw.2 trivial)]
 refine wp_value (v := .slice (some ⟨w.heap.size, 0, none⟩) n cp) (w' := w.alloc (.cells (madeCells z.cells (cp * ti.size)) e)) ?_ ?_
 ·unfold execOp
  simp only [hop.1, ev_sound (opd_sound h3 h4) (G := []) trivial ha, ev_sound (opd_sound h3 h4) (G := []) trivial hb, den, Sem.run_bind, hm, Result.andThen_ok, Sem.run_pure]
 simp only [Act.put, hd]
 have h3' : LOk (env ++ [0]) (M' (some ⟨w.heap.size, 0, none⟩)) L t' := by rw [hM']; exact h3.mono h2.len _ _
 have h4' : ROk (env ++ [0]) (M' (some ⟨w.heap.size, 0, none⟩)) lr t' := by rw [hM']; exact h4.mono h2.len _ _
 refine (h ⟨w.heap.size, 0, none⟩).to FR DF (env ++ [0]) (t'.setIfInBounds d (.slice (some ⟨w.heap.size, 0, none⟩) n cp)) _ (by simpa using g1) hW (h3'.put (x := .v _) hdt trivial)
  (h4'.put hdt hf (fun _ => rfl) (fun hn => absurd trivial hn) rfl (.inl rfl) (fun _ => trivial)) ?_
 show DOk DF (env ++ [0]) V (M' _) _
 rw [hM']
 exact DOk.grow ⟨_, rfl⟩ (VLe.refl V) ⟨_, rfl⟩ h5.same
theorem Exec.mkr {x y : Operand} {t e sz bys i nm : Nat} {en ec : Int} {kx ky : IntKind} {zs : List Value} {M' : Option Addr → List OB}
  (hh : headOf C.nt all lr L o = some ([], d)) (hc : mkTy C.T o.op = some (x, y, t, e, sz, bys, zs)) (ha : ev (opd L lr) [] x = some (.v (.int kx en))) (hb : ev (opd L lr) [] y = some (.v (.int ky ec)))
  (hnm : en.toNat = nm) (hnc : 0 ≤ en ∧ en ≤ ec) (hbnd : bys * ec.toNat ≤ 281474976710656) (hs : ∀ a, snocN M (.row (.slice a nm ec.toNat) (List.replicate nm zs).flatten e sz) 0 = some (M' a, i))
  (h : ∀ a, Exec C ⟨.ops rest all (⟨d, [], .v (.slice (some a) nm ec.toNat), d⟩ :: lr) :: k, (d, .v (.slice (some a) nm ec.toNat)) :: L, M' (some a)⟩ V) : Exec C ⟨.ops (o :: rest) all lr :: k, L, M⟩ V := by
 subst hnm
 have h1 : ((en.toNat : Nat) : Int) = en := Int.toNat_of_nonneg hnc.1
 have h2 : ((ec.toNat : Nat) : Int) = ec := Int.toNat_of_nonneg (by omega)
 exact Exec.mkr0 hT (kx := kx) (ky := ky) hh hc (by rw [h1]; exact ha) (by rw [h2]; exact hb) (by omega) hbnd hs h
theorem Exec.bsl {x : SV} {M' : List OB} {n0 e0 : Nat} {cs0 : List SV} (hh : headOf C.nt all lr L o = some ([], d)) (hc : bslOf C.T (opd L lr) M o.op = some (x, M', n0, cs0, e0))
  (h : Exec C ⟨.ops rest all (⟨d, [], x, d⟩ :: lr) :: k, (d, x) :: L, M'⟩ V) : Exec C ⟨.ops (o :: rest) all lr :: k, L, M⟩ V := by
 refine Exec.of fun FR DF env t' w g1 h2 h3 h4 h5 => ?_
 obtain ⟨env', w', p1, p2, p3, p4, p5, p6, p7⟩ := bslOf_sound hT h2 (opd_sound h3 h4) hc
 obtain ⟨hg, hd, hn, hf, _⟩ := headOf_some hh
 have hdt : d < t'.size := by rw [g1]; simpa [Nat.blt_eq] using hn
 have hw := guard_sound h4 hg
 show wpList C.P ⟨all⟩ (post C FR DF k) (o :: rest) ⟨t', []⟩ w
 refine wpList_want ?_
 rw [if_pos (hw.2 trivial)]
 refine wp_value p7 ?_
 simp only [Act.put, hd]
 exact h.to FR DF env' (t'.setIfInBounds d (den env' x)) w' (by simpa using g1) p3 ((p4 _ h3).put hdt p6)
  ((p5 _ h4).put hdt hf (fun _ => rfl) (fun hn => absurd trivial hn) rfl (.inl rfl) (fun _ => p6)) (DOk.grow p1 (VLe.refl V) p2 h5.same)
omit hT in

theorem WOk.openBlk {V0 V : View} {FR : Frm} {env : List Nat} {M : List OB} {w : World} (h : WOk V0 FR env V M w) {i ty : Nat} {cs : List SV} {vs : List Value} (hi : M[i]? = some (.blk cs ty)) (hv : vals cs = some vs) :
  ∃ V', VLe V V' ∧ RdAt V' (some ⟨envAt env i, 0, none⟩) 0 vs ∧ WOk V0 FR env V' (M.set i .unk) w := by
 have hsat := (h.sat i _ hi).1
 rw [vals_sound (env := env) hv] at hsat
 have hrow : rowSat w ty vs.length (.slice (some ⟨envAt env i, 0, none⟩) 1 1) vs := ⟨1, by simp, .inr ⟨_, 1, _, rfl, Nat.zero_le _, hsat, Nat.le_refl _, by simp [maxLen], by simp, by simp⟩⟩
 have hW := h.upd (w' := w) (o' := .row (.slice (some ⟨envAt env i, 0, none⟩) 1 1) vs ty vs.length) hi (by simp) rfl rfl rfl (fun _ _ _ => rfl) hrow (fun a ha => .inl (by
  simp only [OB.own, Value.ownBlock, Option.some.injEq] at ha ⊢
  exact ha.symm))
 obtain ⟨V', v1, v2, hW'⟩ := hW.freeze (i := i) (by rw [List.getElem?_set, if_pos rfl, if_pos (List.getElem?_eq_some_iff.1 hi).1])
 rw [List.set_set] at hW'
 refine ⟨V', v1, ?_, hW'⟩
 cases vs with
 | nil => exact ⟨_, _, rfl, fun j c hj => by simp at hj⟩
 | cons x l => exact v2 (by simp)
theorem Exec.bsV {n0 e0 len cap : Nat} {M' M2 : List OB} {cs0 : List SV} {vs : List Value} (hh : headOf C.nt all lr L o = some ([], d)) (hc : bslOf C.T (opd L lr) M o.op = some (.slc n0 0 len cap, M', n0, cs0, e0))
  (hM : nth M' n0 = some (.blk cs0 e0)) (hv : vals cs0 = some vs) (hs : setN M' n0 .unk = some M2)
  (h : ∀ V' a, VLe V V' → RdAt V' (some a) 0 vs → Exec C ⟨.ops rest all (⟨d, [], .v (.slice (some a) len cap), d⟩ :: lr) :: k, (d, .v (.slice (some a) len cap)) :: L, M2⟩ V') : Exec C ⟨.ops (o :: rest) all lr :: k, L, M⟩ V := by
 refine Exec.of fun FR DF env t' w g1 h2 h3 h4 h5 => ?_
 obtain ⟨env', w', p1, p2, p3, p4, p5, p6, p7⟩ := bslOf_sound hT h2 (opd_sound h3 h4) hc
 obtain ⟨_, rfl⟩ := setN_sound hs
 rw [nth_eq] at hM
 obtain ⟨V', v1, v2, hW'⟩ := p3.openBlk hM hv
 obtain ⟨hg, hd, hn, hf, _⟩ := headOf_some hh
 have hdt : d < t'.size := by rw [g1]; simpa [Nat.blt_eq] using hn
 have hw := guard_sound h4 hg
 show wpList C.P ⟨all⟩ (post C FR DF k) (o :: rest) ⟨t', []⟩ w
 refine wpList_want ?_
 rw [if_pos (hw.2 trivial)]
 refine wp_value p7 ?_
 simp only [Act.put, hd]
 obtain ⟨r, hr⟩ := p2
 have hn0 : M.length ≤ n0 := by
  refine Nat.le_of_not_lt fun hl => ?_
  have hb : bslOf C.T (opd L lr) M o.op = some (.slc n0 0 len cap, M', n0, cs0, e0) := hc
  unfold bslOf at hb
  repeat' (split at hb <;> try (simp at hb; done))
  rename_i hsn
  simp only [Option.some.injEq, Prod.mk.injEq] at hb
  obtain ⟨hb1, hb2, hb3, _⟩ := hb
  have h9 : n0 = 0 + M.length := by
   have := (snocN_sound hsn).2
   rw [hb3] at this
   exact this
  omega
 have hset : ∃ r', M'.set n0 OB.unk = M ++ r' := by
  refine ⟨r.set (n0 - M.length) .unk, ?_⟩
  rw [hr, List.set_append, if_neg (Nat.not_lt.2 hn0)]
 exact (h V' ⟨envAt env' n0, 0, none⟩ v1 v2).to FR DF env' (t'.setIfInBounds d (.slice (some ⟨envAt env' n0, 0, none⟩) len cap)) w' (by simpa using g1) hW' (((p4 _ h3).set (by simp)).put (x := .v _) hdt trivial)
  (((p5 _ h4).set (by simp)).put hdt hf (fun _ => rfl) (fun hn => absurd trivial hn) rfl (.inl rfl) (fun _ => trivial)) (DOk.grow p1 v1 hset h5.same)

/-! ### Stores into a row -/
def stOf (T : List TyD) (od : Look) (op : Op) : Option (Option Addr × Nat × List SV × Nat) :=
 match op with
 | .store t x y => match nth T t with
  | some dd => match dd.size with
   | 0 => none
   | sz + 1 => match ev od [] x, ev od [] y with
    | some (.el a off), some v => match cellsV v with
     | some vs => match Nat.beq vs.length (sz + 1), allOne vs with
      | true, true => some (a, off, vs, sz + 1)
      | _, _ => none
     | none => none
    | some (.v (.pointer a)), some v => match cellsV v with
     | some vs => match Nat.beq vs.length (sz + 1), allOne vs with
      | true, true => some (a, 0, vs, sz + 1)
      | _, _ => none
     | none => none
    | _, _ => none
  | none => none
 | _ => none
omit hT in
theorem stOf_sound {env : List Nat} {t' : Array Value} {od : Look} (hO : Tells env M t' od) {a : Option Addr} {off sz : Nat} {vs : List SV} (h : stOf C.T od o.op = some (a, off, vs, sz)) {b o' : Nat} (ha : a = some ⟨b, o', none⟩) :
  vs.length = sz ∧ 0 < sz ∧ ∃ ty x y dd, o.op = .store ty x y ∧ nth C.T ty = some dd ∧ dd.size = sz ∧ (⟨t', []⟩ : Act).eval x = .pointer (some ⟨b, o' + off, none⟩) ∧ ((⟨t', []⟩ : Act).eval y).cells = ⟨vs.map (den env)⟩ ∧ allOne vs = true := by
 subst ha
 unfold stOf at h
 split at h <;> try (simp at h; done)
 rename_i ty x y hop
 split at h <;> try (simp at h; done)
 rename_i dd hd
 split at h <;> try (simp at h; done)
 rename_i sz' hsz
 split at h <;> try (simp at h; done)
 ·rename_i a' off' v hx hy
  split at h <;> try (simp at h; done)
  rename_i vs' hvs
  split at h <;> try (simp at h; done)
  rename_i hlen hone
  simp only [Option.some.injEq, Prod.mk.injEq] at h
  obtain ⟨rfl, rfl, rfl, rfl⟩ := h
  refine ⟨beq_nat hlen, by omega, ty, x, y, dd, hop, hd, hsz, ?_, ?_, hone⟩
  ·rw [ev_sound hO (G := []) trivial hx]; rfl
  ·rw [ev_sound hO (G := []) trivial hy]; exact (cellsV_sound (env := env) (ev_ok hO (G := []) trivial hy) hvs).1
 ·rename_i a' v hx hy
  split at h <;> try (simp at h; done)
  rename_i vs' hvs
  split at h <;> try (simp at h; done)
  rename_i hlen hone
  simp only [Option.some.injEq, Prod.mk.injEq] at h
  obtain ⟨rfl, rfl, rfl, rfl⟩ := h
  refine ⟨beq_nat hlen, by omega, ty, x, y, dd, hop, hd, hsz, ?_, ?_, hone⟩
  ·rw [ev_sound hO (G := []) trivial hx]; rfl
  ·rw [ev_sound hO (G := []) trivial hy]; exact (cellsV_sound (env := env) (ev_ok hO (G := []) trivial hy) hvs).1
theorem Exec.stR (i : Nat) {a : Option Addr} {off n c e sz ssz : Nat} {vs : List SV} {cs nv cs' : List Value} {M' : List OB} (hg : guardC all lr o.guard = some []) (hd : o.dst = none) (hc : stOf C.T (opd L lr) o.op = some (a, off, vs, ssz))
  (hv : vals vs = some nv) (hi : nth M i = some (.row (.slice a n c) cs e sz)) (ha : ∃ b o, a = some ⟨b, o, none⟩) (hoff : off + ssz ≤ cs.length) (hcs : cs.take off ++ nv ++ cs.drop (off + ssz) = cs')
  (hs : setN M i (.row (.slice a n c) cs' e sz) = some M') (hk : wrOk i k = true)
  (h : Exec C ⟨.ops rest all lr :: k, L, M'⟩ V) : Exec C ⟨.ops (o :: rest) all lr :: k, L, M⟩ V := by
 obtain ⟨b, o', rfl⟩ := ha
 obtain ⟨_, rfl⟩ := setN_sound hs
 rw [nth_eq] at hi
 refine Exec.of fun FR DF env t' w g1 h2 h3 h4 h5 => ?_
 obtain ⟨q1, q2, ty, x, y, dd, hop, hd', hsz, hx, hy, hone⟩   := stOf_sound (C := C) (opd_sound h3 h4) hc rfl
 have hsat := h2.sat i _ hi
 obtain ⟨r1, r2, r3, r4⟩ := rowSat_some hsat
 have ho : o' = 0 := by
  rcases r3 with ⟨h, _⟩ | ⟨g, h⟩
  ·simp at h
  ·simp at h; exact h.2
 subst ho
 rcases r4.2 with ⟨hv', _⟩ | ⟨g, cap, cur, hv', k1, k2, k3, k4, k5, k6⟩
 ·simp at hv'
 simp only [Value.slice.injEq, Option.some.injEq, Addr.mk.injEq, true_and, and_true] at hv'
 obtain ⟨rfl, rfl⟩ := hv'
 have hnv : nv.length = ssz := by
  have := congrArg List.length (vals_sound (env := env) hv)
  simp at this
  omega
 have hcl : cs.length ≤ cur.size := by rw [r1, k5]; exact Nat.mul_le_mul_right _ k3
 have hst := run_storeCells_at (P := C.P) b off e nv 0 cur w k2 (by omega) (by rw [← vals_sound (env := env) hv]; exact allOne_sound hone)
 simp only [Nat.add_zero] at hst
 have hw := guard_sound h4 hg
 show wpList C.P ⟨all⟩ (post C FR DF k) (o :: rest) ⟨t', []⟩ w
 refine wpList_want ?_
 rw [if_pos (hw.2 trivial)]
 refine wp_skip' (w' := w.setRow b (cur.toList.take off ++ nv ++ cur.toList.drop (off + nv.length)).toArray) ?_ ?_
 ·unfold execOp
  have hcells : ((⟨t', []⟩ : Act).eval y).cells = ⟨nv⟩ := by rw [hy, vals_sound (env := env) hv]
  simp only [hop, hx, Instr.storeAt, Instr.sureAddr, storeVar, Sem.run_bind, Sem.run_pure, Result.andThen_ok, t_size hT w hd' (by omega), hcells, Nat.zero_add]
  rw [if_neg (by simp [hnv, hsz])]
  simp only [Result.andThen_ok, hst]
 ·simp only [Act.put, hd]
  have hnew : rowSat (w.setRow b (cur.toList.take off ++ nv ++ cur.toList.drop (off + nv.length)).toArray) e sz (.slice (some ⟨b, 0, none⟩) n c) cs' := by
   refine ⟨n, ?_, .inr ⟨b, c, _, rfl, Nat.zero_le _, setRow_heap w b cur _ e _ k2, k3, k4, ?_, ?_⟩⟩
   ·rw [← hcs, ← r1]; simp only [List.length_append, List.length_take, List.length_drop, hnv]; omega
   ·simp only [List.size_toArray, List.length_append, List.length_take, List.length_drop, Array.length_toList, hnv]; omega
   ·rw [← hcs, ← k6, ← r1]
    simp only [hnv]
    rw [List.take_append, List.take_append, List.take_take, List.take_take]
    simp only [List.length_append, List.length_take, Array.length_toList, hnv]
    rw [Nat.min_eq_left (by omega : off ≤ cs.length), Nat.min_eq_right (by omega : off ≤ cs.length), List.drop_take, List.take_of_length_le (by omega : nv.length ≤ _)]
    congr 2
    rw [Nat.min_eq_left (by omega)]
  have hW := h2.upd (w' := w.setRow b (cur.toList.take off ++ nv ++ cur.toList.drop (off + nv.length)).toArray) (o' := .row (.slice (some ⟨b, 0, none⟩) n c) cs' e sz) hi (by simp) rfl rfl rfl
   (fun kk hk hn => setRow_other w b kk _ (fun he => hn (by simp [OB.own, Value.ownBlock, he]))) hnew (fun p hp => .inl hp)
  exact h.to FR DF env t' _ g1 hW (h3.set (by simp)) (h4.set (by simp)) (DOk.write hk h5.same)
end

/-! ### What a row says of itself -/
theorem Exec.rowI (i : Nat) {C : Ctx} {k : List Kt} {L : Fr} {M : List OB} {V : View} {n c e sz : Nat} {a : Option Addr} {cs : List Value} (hi : nth M i = some (.row (.slice a n c) cs e sz))
  (h : cs.length = n * sz → (0 < n → ∃ b o, a = some ⟨b, o, none⟩) → n ≤ c → Exec C ⟨k, L, M⟩ V) : Exec C ⟨k, L, M⟩ V := by
 refine Exec.of fun FR DF env t' w g1 h2 h3 h4 h5 => ?_
 have hi' := hi
 rw [nth_eq] at hi'
 obtain ⟨r1, r2, r3, r4⟩ := rowSat_some (h2.sat i _ hi')
 exact (h r1 (fun h0 => by
  rcases r3 with ⟨_, h, _⟩ | ⟨g, h⟩
  ·omega
  ·exact ⟨g, 0, h⟩) r2).to FR DF env t' w g1 h2 h3 h4 h5
end Go.Proofs.YtglnnhmmipopiaaGreat

set_option linter.all false
namespace Go.Proofs.YtglnnhmmipopiaaGreat
structure RowD where
 x : Value
 cs : List Value
 e : Nat
 sz : Nat
def RowD.ob (r : RowD) : OB := .row r.x r.cs r.e r.sz
def SpecM (P : Program) (f : Nat) (args : List Value) (r : RowD) (V : View) (R : View → Value → RowD → Prop) : Prop :=
 IsFn P f ∧ ∀ w, Holds V w → rowSat w r.e r.sz r.x r.cs → (∀ a : Addr, r.x.ownBlock = some a.block → V a = none) → Calls P f ⟨args⟩ w fun e w' => ∃ v V' r', e = .returned v ∧ (w'.os = w.os ∧ w'.tape = w.tape ∧ w'.output = w.output ∧ ∀ k, k < w.heap.size → some k ≠ r.x.ownBlock → w'.heap[k]? = w.heap[k]?) ∧ VLe V V' ∧ Holds V' w' ∧
  (∀ a x, V' a = some x → V a = some x ∨ w.heap.size ≤ a.block ∨ r.x.ownBlock = some a.block) ∧ rowSat w' r'.e r'.sz r'.x r'.cs ∧ (∀ a : Addr, r'.x.ownBlock = some a.block → V' a = none) ∧
  (∀ a : Addr, r'.x.ownBlock = some a.block → r.x.ownBlock = some a.block ∨ w.heap.size ≤ a.block) ∧ R V' v r'
def RowEnd (R : View → Value → RowD → Prop) (V : View) (v : Value) (M : List OB) : Prop := ∃ r', (r'.x = .slice none 0 0 ∧ r'.cs = [] ∨ ∃ i, nth M i = some r'.ob) ∧ R V v r'
theorem RowEnd.at {R : View → Value → RowD → Prop} {V : View} {v x : Value} {cs : List Value} {e sz : Nat} {M : List OB} (i : Nat) (hi : nth M i = some (.row x cs e sz)) (h : R V v ⟨x, cs, e, sz⟩) : RowEnd R V v M := ⟨⟨x, cs, e, sz⟩, .inr ⟨i, hi⟩, h⟩
open Classical in
theorem SpecM.enter {P : Program} {T : List TyD} {f nt : Nat} {fn : Func} {c : Code} {args : List Value} {r : RowD} {V : View} {R : View → Value → RowD → Prop} {L : Fr}
  (hf : P.funcs[f]? = some fn) (hb : fn.body = some c) (hname : (fn.name == "runtime.NumGoroutine") = false) (hnt : fn.ntmps = nt) (hlen : Nat.ble args.length nt = true) (hL : argFr 0 args = L)
  (h : Exec ⟨P, T, fn, nt, V, RowEnd R⟩ ⟨[.code c], L, [.row r.x r.cs r.e r.sz]⟩ V) : SpecM P f args r V R := by
 refine ⟨⟨fn, hf, by rw [hb]; rfl, hname⟩, fun w hw hrow hap => ?_⟩
 let FR : Frm := ⟨w.os, w.tape, w.output, fun b => if r.x.ownBlock = some b then none else w.heap[b]?⟩
 have hWOk : WOk V FR [0] V [.row r.x r.cs r.e r.sz] w := by
  refine ⟨rfl, rfl, rfl, fun b o ho => ?_, VLe.refl V, hw, fun _ _ h => .inl h, rfl, fun i o h => ?_, fun i o a h ha => ?_, fun i o a h ha => ?_, fun i j o o' a hij h h' => ?_⟩
  ·simp only [FR] at ho
   split at ho
   ·simp at ho
   ·exact ho
  ·match i, h with
   | 0, h => simp at h; subst h; exact hrow
  ·match i, h with
   | 0, h => simp at h; subst h; exact hap a ha
  ·match i, h with
   | 0, h =>
    simp at h; subst h
    have ha : r.x.ownBlock = some a.block := ha
    simp only [FR]
    rw [if_pos ha]
  ·match i, j, h, h' with
   | 0, 0, _, _ => exact absurd rfl hij
 have hle := Nat.le_of_ble_eq_true hlen
 have hcall := calls_of_wp (P := P) (f := f) (args := ⟨args⟩) (w := w) (R := endP ⟨P, T, fn, nt, V, RowEnd R⟩ FR) hf hb (by
  refine h.to0 (k := [.code c]) rfl (FR := FR) (env := [0]) (t := (⟨args⟩ : Array Value) ++ Array.replicate (fn.ntmps - args.length) undef) ?_ hWOk ?_ .none
  ·simp [hnt]; omega
  ·intro s x hx
   rw [← hL] at hx
   obtain ⟨v, rfl, _, h2⟩ := argFr_look args 0 s x hx
   refine ⟨?_, trivial⟩
   have hs : s < args.length := (List.getElem?_eq_some_iff.1 h2).1
   rw [Array.getElem?_append]
   simpa [hs, den] using h2)
 refine hcall.mono fun e w' hp => ?_
 obtain ⟨v, env', V', M', h1, hW', r', hr', hR⟩ := hp
 have hblk : ∀ k, k < w.heap.size → some k ≠ r.x.ownBlock → w'.heap[k]? = w.heap[k]? := fun k hk hne => by
  have h1 : w.heap[k]? = some w.heap[k] := by simp [hk]
  rw [h1]
  refine hW'.frame k _ ?_
  simp only [FR]
  rw [if_neg (fun e => hne e.symm)]
  exact h1
 have hown : ∀ a : Addr, FR.blk a.block = none → r.x.ownBlock = some a.block ∨ w.heap.size ≤ a.block := fun a ha => by
  simp only [FR] at ha
  split at ha
  ·rename_i h; exact .inl h
  ·right
   refine Nat.le_of_not_lt fun hl => ?_
   simp [hl] at ha
 refine ⟨v, V', r', h1, ⟨hW'.os, hW'.tape, hW'.output, hblk⟩, hW'.le, hW'.holds, fun a x hx => ?_, ?_, ?_, ?_, hR⟩
 ·rcases hW'.fresh a x hx with h | h
  ·exact .inl h
  ·rcases hown a h with h | h
   ·exact .inr (.inr h)
   ·exact .inr (.inl h)
 all_goals rcases hr' with ⟨hx, hcs⟩ | ⟨i, hi⟩
 ·rw [hx, hcs]; exact ⟨0, World.ownsRow_nil _ _ _ _⟩
 ·rw [nth_eq] at hi; exact hW'.sat i _ hi
 ·intro a ha; rw [hx] at ha; simp [Value.ownBlock] at ha
 ·intro a ha; rw [nth_eq] at hi; exact hW'.apartV i _ a hi ha
 ·intro a ha; rw [hx] at ha; simp [Value.ownBlock] at ha
 ·intro a ha; rw [nth_eq] at hi; exact hown a (hW'.apartF i _ a hi ha)
section
variable {C : Ctx}
theorem Exec.callM (i : Nat) {o : Oper} {rest all : List Oper} {lr : List REnt} {k : List Kt} {L : Fr} {M : List OB} {V : View} {d f : Nat} {args : List Value} {x : Value} {cs : List Value} {e sz : Nat} {R : View → Value → RowD → Prop}
  (hh : headOf C.nt all lr L o = some ([], d)) (hc : callOf (opd L lr) [] o.op = some (f, args)) (hi : nth M i = some (.row x cs e sz)) (hk : wrOk i k = true) (hs : SpecM C.P f args ⟨x, cs, e, sz⟩ V R)
  (h : ∀ V' v r', VLe V V' → R V' v r' → ∃ M', setN M i r'.ob = some M' ∧ Exec C ⟨.ops rest all (⟨d, [], .v v, d⟩ :: lr) :: k, (d, .v v) :: L, M'⟩ V') : Exec C ⟨.ops (o :: rest) all lr :: k, L, M⟩ V := by
 refine Exec.of fun FR DF env t w h1 h2 h3 h4 h5 => ?_
 rw [nth_eq] at hi
 obtain ⟨hg, hd, hn, hf, _⟩ := headOf_some hh
 have hdt : d < t.size := by rw [h1]; simpa [Nat.blt_eq] using hn
 have hw := guard_sound h4 hg
 show wpList C.P ⟨all⟩ (post C FR DF k) (o :: rest) ⟨t, []⟩ w
 refine wpList_want ?_
 rw [if_pos (hw.2 trivial)]
 obtain ⟨hfn, hcall⟩ := hs
 unfold Oper.wp
 rw [callOf_wp (opd_sound h3 h4) (G := []) trivial hc hfn w]
 refine (hcall w h2.holds (h2.sat i _ hi) (fun a ha => h2.apartV i _ a hi ha)).mono fun e' w' ⟨v, V', r', p1, ⟨q1, q2, q3, q4⟩, p3, p4, p5, p6, p7, p8, p9⟩ => ?_
 subst p1
 obtain ⟨M', hM', hE⟩ := h V' v r' p3 p9
 obtain ⟨_, rfl⟩ := setN_sound hM'
 have hW' : WOk C.V0 FR env V' (M.set i r'.ob) w' := h2.updV hi (by simp [RowD.ob]) q1 q2 q3 (fun kk hk hn => q4 kk hk (fun he => hn he.symm)) p6 p8 p3 p4 p5 p7
 simp only [Act.put, hd]
 exact hE.to FR DF env (t.setIfInBounds d v) w' (by simpa using h1) hW' ((h3.set (by simp [RowD.ob])).put (x := .v v) hdt trivial) ((h4.set (by simp [RowD.ob])).put hdt hf (fun _ => rfl) (fun hn => absurd trivial hn) rfl (.inl rfl) (fun _ => trivial))
  (DOk.grow (M := M.set i r'.ob) ⟨[], by simp⟩ p3 ⟨[], by simp⟩ (DOk.write hk h5.same))
end
end Go.Proofs.YtglnnhmmipopiaaGreat

set_option linter.all false
namespace Go.Proofs.YtglnnhmmipopiaaGreat
theorem putRow_facts {w : World} {g e q : Nat} {cur : Array Value} {l2 : List Int} {os : Array Obj} (hheap : w.heap[g]? = some (.cells cur e (0, 0))) (hl2 : l2.length ≤ cur.size) :
  (Go.Sort.grow (Go.Sort.putRow (Value.int .i64) (Go.Sort.ahead w q) g 0 l2.toArray) os).os = w.os ∧ (Go.Sort.grow (Go.Sort.putRow (Value.int .i64) (Go.Sort.ahead w q) g 0 l2.toArray) os).tape = w.tape ∧
  (Go.Sort.grow (Go.Sort.putRow (Value.int .i64) (Go.Sort.ahead w q) g 0 l2.toArray) os).output = w.output ∧
  (∀ k, k < w.heap.size → k ≠ g → (Go.Sort.grow (Go.Sort.putRow (Value.int .i64) (Go.Sort.ahead w q) g 0 l2.toArray) os).heap[k]? = w.heap[k]?) ∧
  ∃ cur', (Go.Sort.grow (Go.Sort.putRow (Value.int .i64) (Go.Sort.ahead w q) g 0 l2.toArray) os).heap[g]? = some (.cells cur' e (0, 0)) ∧ cur'.size = cur.size ∧ cur'.toList.take l2.length = l2.map (Value.int .i64) := by
 have hg : g < w.heap.size := (Array.getElem?_eq_some_iff.1 hheap).1
 refine ⟨rfl, rfl, rfl, fun k hk hne => ?_, Go.Sort.putCells (Value.int .i64) 0 l2.toArray cur, ?_, ?_, ?_⟩
 ·show ((w.heap.modify g _) ++ os)[k]? = _
  rw [Array.getElem?_append_left (by simpa using hk), Array.getElem?_modify, if_neg (Ne.symm hne)]
 ·show ((w.heap.modify g _) ++ os)[g]? = _
  rw [Array.getElem?_append_left (by simpa using hg), Array.getElem?_modify, if_pos rfl, hheap]
  rfl
 ·simp [Go.Sort.putCells]
 ·apply List.ext_getElem?
  intro j
  rw [List.getElem?_take]
  by_cases hj : j < l2.length
  ·rw [if_pos hj]
   have hjc : j < cur.size := by omega
   simp [Go.Sort.putCells, hj, hjc]
  ·rw [if_neg hj]
   exact (List.getElem?_eq_none (by simp; omega)).symm
theorem row_holds {w : World} {g e m : Nat} {cur : Array Value} {l : List Int} (hheap : w.heap[g]? = some (.cells cur e (0, 0))) (htake : cur.toList.take m = l.map (Value.int .i64)) (hl : l.length = m) : Go.Sort.Holds (Value.int .i64) w g 0 l.toArray := by
 intro j hj
 have hj' : j < l.length := by simpa using hj
 have h1 : cur.toList[j]? = some (Value.int .i64 l[j]) := by
  have : (cur.toList.take m)[j]? = some (Value.int .i64 l[j]) := by rw [htake]; simp [hj']
  rw [List.getElem?_take, if_pos (by omega)] at this
  exact this
 constructor
 ·simp only [World.cell?, hheap, Nat.zero_add]
  simp only [Option.isSome_none, Bool.false_eq_true, if_false]
  rw [Array.getElem?_toList] at h1
  rw [h1]
  simp [hj']
 ·simp [World.frozen?, hheap]
theorem holds_off {V : View} {w w' : World} {g : Nat} (hV : Holds V w) (hap : ∀ a : Addr, a.block = g → V a = none) (h : ∀ k, k < w.heap.size → k ≠ g → w'.heap[k]? = w.heap[k]?) : Holds V w' := by
 intro a x hx
 have h1 := hV a x hx
 have hne : a.block ≠ g := fun e => by rw [hap a e] at hx; cases hx
 have hlt : a.block < w.heap.size := by
  rcases Nat.lt_or_ge a.block w.heap.size with h' | h'
  ·exact h'
  ·simp only [World.cell?] at h1
   rw [Array.getElem?_eq_none h'] at h1
   simp at h1
 simp only [World.cell?] at h1 ⊢
 rw [h _ hlt hne]; exact h1
theorem sortI_specM {P : Program} {f : Nat} (hf : IsFn P f)
  (hS : ∀ (blk off cap : Nat) (zs : List Int) (w : World), Go.Sort.Holds (Value.int .i64) w blk off zs.toArray → blk < w.heap.size → zs.length < 4611686018427387904 →
   Calls P f #[.slice (some ⟨blk, off, none⟩) zs.length cap] w fun e w' => e = .returned (.tuple #[]) ∧ ∃ n os, w' = Go.Sort.grow (Go.Sort.putRow (Value.int .i64) (Go.Sort.ahead w n) blk off (zs.mergeSort fun x y => decide (x ≤ y)).toArray) os)
  (hN : ∀ (p : Option Addr) (cap : Nat) (w : World), Calls P f #[.slice p 0 cap] w fun e w' => e = .returned (.tuple #[]) ∧ w' = w)
  {a : Option Addr} {n c e : Nat} {l : List Int} {V : View} (hsz : l.length < 4611686018427387904) :
  SpecM P f [.slice a n c] ⟨.slice a n c, l.map (Value.int .i64), e, 1⟩ V (fun V' v r' => v = .tuple #[] ∧ V' = V ∧ r' = ⟨.slice a n c, (l.mergeSort fun x y => decide (x ≤ y)).map (Value.int .i64), e, 1⟩) := by
 refine ⟨hf, fun w hV hrow hap => ?_⟩
 obtain ⟨m, hlen, hrest⟩ := hrow
 have hlm : l.length = m := by simpa using hlen
 rcases hrest with ⟨hx, hm⟩ | ⟨g, cap, cur, hx, hb, hheap, hnc, hcm, hcs, htake⟩
 ·simp only [Value.slice.injEq] at hx
  obtain ⟨rfl, rfl, rfl⟩ := hx
  have hl0 : l = [] := List.eq_nil_of_length_eq_zero (by omega)
  subst hl0
  refine (hN none 0 w).mono ?_
  rintro e' w' ⟨rfl, rfl⟩
  exact ⟨_, V, _, rfl, ⟨rfl, rfl, rfl, fun _ _ _ => rfl⟩, VLe.refl V, hV, fun a x h => .inl h, ⟨0, by simp, .inl ⟨rfl, rfl⟩⟩, fun a ha => by simp [Value.ownBlock] at ha, fun a ha => by simp [Value.ownBlock] at ha, rfl, rfl, rfl⟩
 ·simp only [Value.slice.injEq] at hx
  obtain ⟨rfl, rfl, rfl⟩ := hx
  rw [Nat.mul_one] at htake hcs
  have hg : g < w.heap.size := (Array.getElem?_eq_some_iff.1 hheap).1
  have hc := hS g 0 c l w (row_holds hheap htake hlm) hg hsz
  rw [hlm] at hc
  refine hc.mono ?_
  rintro e' w' ⟨rfl, q, os, rfl⟩
  have hsl : (l.mergeSort fun x y => decide (x ≤ y)).length = n := by rw [List.length_mergeSort, hlm]
  obtain ⟨p1, p2, p3, p4, cur', p5, p6, p7⟩ := putRow_facts (q := q) (os := os) (l2 := l.mergeSort fun x y => decide (x ≤ y)) hheap (by omega)
  refine ⟨_, V, ⟨.slice (some ⟨g, 0, none⟩) n c, (l.mergeSort fun x y => decide (x ≤ y)).map (Value.int .i64), e, 1⟩, rfl, ⟨p1, p2, p3, fun k hk hne => p4 k hk (fun e => hne (by rw [e]; rfl))⟩, VLe.refl V, ?_, fun a x h => .inl h, ⟨n, by simp [hlm], .inr ⟨g, c, cur', rfl, hb, p5, hnc, hcm, ?_, ?_⟩⟩, fun a ha => hap a ha, fun a ha => .inl ha, rfl, rfl, rfl⟩
  ·exact holds_off hV (fun a ha => hap a (by rw [ha]; rfl)) p4
  ·show cur'.size = c * 1
   omega
  ·show cur'.toList.take (n * 1) = _
   rw [Nat.mul_one, ← hsl]; exact p7
theorem compact_le (l : List Int) : (Go.Lib.compact l).length ≤ l.length := by
 simp only [Go.Lib.compact, Go.Lib.compactUpTo, List.length_map]
 exact Nat.le_trans (List.length_filter_le _ _) (by simp)
theorem compactI_specM {P : Program} {f : Nat} (hf : IsFn P f)
  (hC : ∀ (blk off cap : Nat) (zs : List Int) (w : World), Go.Sort.Holds (Value.int .i64) w blk off zs.toArray → zs.length ≤ 9223372036854775807 → zs.length ≤ cap →
   Calls P f #[.slice (some ⟨blk, off, none⟩) zs.length cap] w fun e w' => e = .returned (.slice (some ⟨blk, off, none⟩) (Go.Lib.compact zs).length cap) ∧ ∃ q, w' = Go.Sort.putRow (Value.int .i64) (Go.Sort.ahead w q) blk off (Go.Lib.compact zs ++ List.replicate (zs.length - (Go.Lib.compact zs).length) 0).toArray)
  (hE : ∀ (a : Option Addr) (cap : Nat) (w : World), Calls P f #[.slice a 0 cap] w fun e w' => e = .returned (.slice a 0 cap) ∧ w' = w)
  {a : Option Addr} {n c e : Nat} {l : List Int} {V : View} :
  SpecM P f [.slice a n c] ⟨.slice a n c, l.map (Value.int .i64), e, 1⟩ V (fun V' v r' => v = .slice a (Go.Lib.compact l).length c ∧ V' = V ∧ r' = ⟨.slice a (Go.Lib.compact l).length c, (Go.Lib.compact l).map (Value.int .i64), e, 1⟩) := by
 refine ⟨hf, fun w hV hrow hap => ?_⟩
 obtain ⟨m, hlen, hrest⟩ := hrow
 have hlm : l.length = m := by simpa using hlen
 rcases hrest with ⟨hx, hm⟩ | ⟨g, cap, cur, hx, hb, hheap, hnc, hcm, hcs, htake⟩
 ·simp only [Value.slice.injEq] at hx
  obtain ⟨rfl, rfl, rfl⟩ := hx
  have hl0 : l = [] := List.eq_nil_of_length_eq_zero (by omega)
  subst hl0
  refine (hE none 0 w).mono ?_
  rintro e' w' ⟨rfl, rfl⟩
  exact ⟨_, V, ⟨.slice none 0 0, [], e, 1⟩, rfl, ⟨rfl, rfl, rfl, fun _ _ _ => rfl⟩, VLe.refl V, hV, fun a x h => .inl h, ⟨0, by simp, .inl ⟨rfl, rfl⟩⟩, fun a ha => by simp [Value.ownBlock] at ha, fun a ha => by simp [Value.ownBlock] at ha, rfl, rfl, rfl⟩
 ·simp only [Value.slice.injEq] at hx
  obtain ⟨rfl, rfl, rfl⟩ := hx
  rw [Nat.mul_one] at htake hcs
  have hle := compact_le l
  have hmax : n ≤ maxLen := Nat.le_trans hnc hcm
  have hc := hC g 0 c l w (row_holds hheap htake hlm) (by simp only [maxLen] at hmax; omega) (by omega)
  rw [hlm] at hc
  refine hc.mono ?_
  rintro e' w' ⟨rfl, q, rfl⟩
  have hl2 : (Go.Lib.compact l ++ List.replicate (n - (Go.Lib.compact l).length) 0).length = n := by simp; omega
  obtain ⟨p1, p2, p3, p4, cur', p5, p6, p7⟩ := putRow_facts (q := q) (os := #[]) (l2 := Go.Lib.compact l ++ List.replicate (n - (Go.Lib.compact l).length) 0) hheap (by omega)
  rw [Go.Sort.grow_empty] at p1 p2 p3 p5
  simp only [Go.Sort.grow_empty] at p4
  refine ⟨_, V, ⟨.slice (some ⟨g, 0, none⟩) (Go.Lib.compact l).length c, (Go.Lib.compact l).map (Value.int .i64), e, 1⟩, rfl, ⟨p1, p2, p3, fun k hk hne => p4 k hk (fun e => hne (by rw [e]; rfl))⟩, VLe.refl V, ?_, fun a x h => .inl h, ⟨(Go.Lib.compact l).length, by simp, .inr ⟨g, c, cur', rfl, hb, p5, by omega, hcm, ?_, ?_⟩⟩, fun a ha => hap a ha, fun a ha => .inl ha, rfl, rfl, rfl⟩
  ·exact holds_off hV (fun a ha => hap a (by rw [ha]; rfl)) p4
  ·show cur'.size = c * 1
   omega
  ·show cur'.toList.take ((Go.Lib.compact l).length * 1) = _
   have : cur'.toList.take (Go.Lib.compact l).length = (cur'.toList.take (Go.Lib.compact l ++ List.replicate (n - (Go.Lib.compact l).length) 0).length).take (Go.Lib.compact l).length := by
    rw [List.take_take, Nat.min_eq_left (by rw [hl2]; omega)]
   rw [Nat.mul_one, this, p7, List.map_append, List.take_left' (by simp)]
end Go.Proofs.YtglnnhmmipopiaaGreat

set_option linter.all false
namespace Go.Proofs.YtglnnhmmipopiaaGreat
abbrev Str := List UInt8

/-! ### What a counterpart is made of -/
def req {ρ : Type} (p : Prop) [Decidable p] (k : Option ρ) : Option ρ := if p then k else none
theorem req_some {ρ : Type} {p : Prop} [Decidable p] {k : Option ρ} {r : ρ} (h : req p k = some r) : p ∧ k = some r := by
 unfold req at h
 split at h
 ·exact ⟨by assumption, h⟩
 ·simp at h
theorem cond_some {ρ : Type} {b : Bool} {x y : Option ρ} {r : ρ} (h : cond b x y = some r) : (b = true ∧ x = some r) ∨ (b = false ∧ y = some r) := by
 cases b
 ·exact .inr ⟨rfl, h⟩
 ·exact .inl ⟨rfl, h⟩
def bnd {α ρ : Type} (x : Option α) (k : α → Option ρ) : Option ρ := match x with | some a => k a | none => none
theorem bnd_some {α ρ : Type} {x : Option α} {k : α → Option ρ} {r : ρ} (h : bnd x k = some r) : ∃ a, x = some a ∧ k a = some r := by
 unfold bnd at h
 split at h
 ·exact ⟨_, rfl, h⟩
 ·simp at h
def gcall {α : Type} [Inhabited α] (g : Bool) (x : Option α) : Option α := cond g x (some default)
theorem gcall_some {α : Type} [Inhabited α] {g : Bool} {x : Option α} {a : α} (h : gcall g x = some a) (hg : g = true) : x = some a := by subst hg; exact h
@[reducible] def jn {κ ρ : Type} (j : κ) (f : κ → Option ρ) : Option ρ := f j
theorem jn_some {κ ρ : Type} {j : κ} {f : κ → Option ρ} {r : ρ} (h : jn j f = some r) : ∃ J, J = j ∧ f J = some r := ⟨j, rfl, h⟩
theorem some_inj {ρ : Type} {a r : ρ} (h : some a = some r) : a = r := Option.some.inj h
theorem gd1_of {x b : Bool} (h : x = b) : (x == b) = true := by subst h; simp
theorem gd2_of {x b y c : Bool} (h : x = b) (k : y = c) : ((x == b) && (y == c)) = true := by subst h; subst k; simp
def atI {α : Type} [Inhabited α] (l : List α) (n : Int) : α := l.getD n.toNat default

/-! ### How data lie in memory -/
structure Cd (α : Type) [Inhabited α] where
 sz : Nat
 rep : View → α → List Value → Prop
 len : ∀ {V x cs}, rep V x cs → cs.length = sz
 mono : ∀ {V V' x cs}, VLe V V' → rep V x cs → rep V' x cs
 one : ∀ {V x cs}, rep V x cs → ∀ u ∈ cs, u.oneCell' = true
 pos : 0 < sz
 dflt : ∃ cs, ∀ V, rep V default cs
def SlAt {α : Type} [Inhabited α] (c : Cd α) (V : View) (a : Option Addr) (k : Nat) (l : List α) : Prop := l.length ≤ k ∧ ∀ i x, l[i]? = some x → ∃ cs, c.rep V x cs ∧ RdAt V a (i * c.sz) cs
section
variable {α : Type} [Inhabited α] {c : Cd α} {V V' : View} {a : Option Addr} {k : Nat} {l : List α}
theorem SlAt.nil : SlAt c V a k [] := ⟨Nat.zero_le _, fun i x h => by simp at h⟩
theorem SlAt.mono (h : SlAt c V a k l) (hv : VLe V V') : SlAt c V' a k l := ⟨h.1, fun i x hx => by
 obtain ⟨cs, h1, h2⟩ := h.2 i x hx
 exact ⟨cs, c.mono hv h1, h2.mono hv⟩⟩
theorem SlAt.get (h : SlAt c V a k l) {n : Int} (hn : 0 ≤ n ∧ n < l.length) : ∃ cs, c.rep V (atI l n) cs ∧ RdAt V a (n.toNat * c.sz) cs := by
 have hlt : n.toNat < l.length := by omega
 refine h.2 n.toNat (atI l n) ?_
 simp [atI, hlt]
theorem RdAt.some {off : Nat} {cs : List Value} (h : RdAt V a off cs) : ∃ b o, a = .some ⟨b, o, none⟩ := by
 obtain ⟨b, o, h1, _⟩ := h
 exact ⟨b, o, h1⟩
theorem SlAt.gget (g : Bool) (h : SlAt c V a k l) {n : Int} (hn : g = true → 0 ≤ n ∧ n < l.length) : ∃ cs, c.rep V (cond g (atI l n) default) cs ∧ (g = true → RdAt V a (n.toNat * c.sz) cs) := by
 cases g with
 | false =>
  obtain ⟨cs, hcs⟩ := c.dflt
  exact ⟨cs, hcs V, fun h => by simp at h⟩
 | true =>
  obtain ⟨cs, h1, h2⟩ := h.get (hn rfl)
  exact ⟨cs, h1, fun _ => h2⟩
theorem RdAt.part {off : Nat} {cs : List Value} (h : RdAt V a off cs) (j n : Nat) {r : List Value} (hr : takeN cs j n = .some r) : RdAt V a (off + j) r := by
 obtain ⟨b, o, h1, h2⟩ := h
 refine ⟨b, o, h1, fun i x hx => ?_⟩
 rcases takeN_eq cs j n r hr with ⟨e, _⟩ | ⟨_, e⟩
 ·rw [e] at hx
  simp only [List.getElem?_take, List.getElem?_drop] at hx
  split at hx
  ·have := h2 (j + i) x hx
   rw [show o + (off + j) + i = o + off + (j + i) by omega]
   exact this
  ·simp at hx
 ·rw [e] at hx; simp at hx
end
def RowRep {α : Type} [Inhabited α] (c : Cd α) (V : View) : List α → List Value → Prop
 | [], cs => cs = []
 | x :: l, cs => ∃ e r, cs = e ++ r ∧ c.rep V x e ∧ RowRep c V l r
section
variable {α : Type} [Inhabited α] {c : Cd α} {V V' : View} {a : Option Addr}
theorem RowRep.nil : RowRep c V [] [] := rfl
theorem RowRep.len : ∀ {l : List α} {cs : List Value}, RowRep c V l cs → cs.length = l.length * c.sz
 | [], cs, h => by rw [show cs = [] from h]; simp
 | x :: l, cs, h => by
  obtain ⟨e, r, rfl, h1, h2⟩ := h
  simp [c.len h1, h2.len, Nat.add_mul, Nat.add_comm]
theorem RowRep.mono (hv : VLe V V') : ∀ {l : List α} {cs : List Value}, RowRep c V l cs → RowRep c V' l cs
 | [], _, h => h
 | _ :: _, _, ⟨e, r, h0, h1, h2⟩ => ⟨e, r, h0, c.mono hv h1, h2.mono hv⟩
theorem RowRep.app : ∀ {l l' : List α} {cs cs' : List Value}, RowRep c V l cs → RowRep c V l' cs' → RowRep c V (l ++ l') (cs ++ cs')
 | [], _, cs, _, h, h' => by rw [show cs = [] from h]; exact h'
 | _ :: _, _, _, _, ⟨e, r, h0, h1, h2⟩, h' => by
  subst h0
  exact ⟨e, _, by rw [List.append_assoc], h1, h2.app h'⟩
theorem RowRep.at : ∀ {l : List α} {cs : List Value} {i : Nat} {x : α}, RowRep c V l cs → l[i]? = some x → ∃ e, c.rep V x e ∧ CellsAt cs (i * c.sz) e
 | [], _, i, x, _, h => by simp at h
 | y :: l, cs, 0, x, ⟨e, r, h0, h1, h2⟩, h => by
  simp at h
  subst h; subst h0
  refine ⟨e, h1, fun j v hv => ?_⟩
  have := (List.getElem?_eq_some_iff.1 hv).1
  rw [Nat.zero_mul, Nat.zero_add, List.getElem?_append, if_pos this]
  exact hv
 | y :: l, cs, i + 1, x, ⟨e, r, h0, h1, h2⟩, h => by
  simp at h
  obtain ⟨e', k1, k2⟩ := h2.at h
  subst h0
  refine ⟨e', k1, fun j v hv => ?_⟩
  have hl := c.len h1
  rw [List.getElem?_append, if_neg (by rw [hl, Nat.add_mul]; omega), hl]
  rw [show (i + 1) * c.sz + j - c.sz = i * c.sz + j by rw [Nat.add_mul]; omega]
  exact k2 j v hv
theorem RowRep.get {l : List α} {cs : List Value} (h : RowRep c V l cs) {n : Int} (hn : 0 ≤ n ∧ n < l.length) : ∃ e, c.rep V (atI l n) e ∧ CellsAt cs (n.toNat * c.sz) e := by
 have hlt : n.toNat < l.length := by omega
 refine h.at ?_
 simp [atI, hlt]
theorem RowRep.gget (g : Bool) {l : List α} {cs : List Value} (h : RowRep c V l cs) {n : Int} (hn : g = true → 0 ≤ n ∧ n < l.length) :
  ∃ e, c.rep V (cond g (atI l n) default) e ∧ (g = true → CellsAt cs (n.toNat * c.sz) e) := by
 cases g with
 | false =>
  obtain ⟨cs, hcs⟩ := c.dflt
  exact ⟨cs, hcs V, fun h => by simp at h⟩
 | true =>
  obtain ⟨cs, h1, h2⟩ := h.get (hn rfl)
  exact ⟨cs, h1, fun _ => h2⟩
theorem RowRep.put : ∀ {l : List α} {cs : List Value} {i : Nat} {x : α} {e : List Value}, RowRep c V l cs → i < l.length → c.rep V x e → RowRep c V (l.set i x) (cs.take (i * c.sz) ++ e ++ cs.drop (i * c.sz + c.sz))
 | [], _, i, x, e, _, h, _ => by simp at h
 | y :: l, cs, 0, x, e, ⟨e0, r, h0, h1, h2⟩, _, hx => by
  subst h0
  have hl := c.len h1
  refine ⟨e, r, ?_, hx, h2⟩
  rw [Nat.zero_mul, Nat.zero_add, ← hl]
  simp
 | y :: l, cs, i + 1, x, e, ⟨e0, r, h0, h1, h2⟩, hi, hx => by
  subst h0
  have hl := c.len h1
  refine ⟨e0, _, ?_, h1, h2.put (i := i) (by simpa using hi) hx⟩
  have e1 : (i + 1) * c.sz = e0.length + i * c.sz := by rw [hl, Nat.add_mul]; omega
  rw [e1, List.take_length_add_append, Nat.add_assoc, List.drop_length_add_append]
  simp
theorem RowRep.set {l : List α} {cs : List Value} (h : RowRep c V l cs) {n : Int} (hn : 0 ≤ n ∧ n < l.length) {x : α} {e : List Value} (hx : c.rep V x e) :
  RowRep c V (l.set n.toNat x) (cs.take (n.toNat * c.sz) ++ e ++ cs.drop (n.toNat * c.sz + c.sz)) := h.put (by omega) hx
theorem RowRep.reps {z : List Value} (hz : c.rep V default z) : ∀ n : Nat, RowRep c V (List.replicate n default) (List.replicate n z).flatten
 | 0 => rfl
 | n + 1 => ⟨z, _, by rw [List.replicate_succ, List.flatten_cons], hz, RowRep.reps hz n⟩
theorem RowRep.slat {l : List α} {cs : List Value} {k : Nat} (h : RowRep c V l cs) (hv : VLe V V') (hrd : cs ≠ [] → RdAt V' a 0 cs) (hk : l.length ≤ k) : SlAt c V' a k l := by
 refine ⟨hk, fun i x hx => ?_⟩
 obtain ⟨e, h1, h2⟩ := h.at hx
 have hne : cs ≠ [] := by
  rintro rfl
  have hl := c.len h1
  have hp := c.pos
  obtain ⟨u, hu⟩ : ∃ u, e[0]? = some u := ⟨e[0]'(by omega), by simp⟩
  have := h2 0 u hu
  simp at this
 obtain ⟨b, o, rfl, hc⟩ := hrd hne
 refine ⟨e, c.mono hv h1, b, o, rfl, fun j v hj => ?_⟩
 have := hc (i * c.sz + j) v (h2 j v hj)
 simpa [Nat.add_assoc] using this
theorem SlAt.cells : ∀ {l : List α} (k : Nat), (∀ i x, l[i]? = some x → ∃ cs, c.rep V x cs ∧ RdAt V a ((k + i) * c.sz) cs) → ∃ cs, RowRep c V l cs ∧ (∀ j v, cs[j]? = some v → ∃ b o, a = some ⟨b, o, none⟩ ∧ V ⟨b, o + k * c.sz + j, none⟩ = some v)
 | [], k, _ => ⟨[], rfl, fun j v h => by simp at h⟩
 | x :: l, k, h => by
  obtain ⟨e, h1, b, o, h2, h3⟩ := h 0 x rfl
  obtain ⟨cs, h4, h5⟩ := SlAt.cells (l := l) (k + 1) fun i y hy => by
   have := h (i + 1) y (by simpa using hy)
   rwa [show k + (i + 1) = k + 1 + i by omega] at this
  have hl := c.len h1
  refine ⟨e ++ cs, ⟨e, cs, rfl, h1, h4⟩, fun j v hv => ?_⟩
  rw [List.getElem?_append] at hv
  split at hv
  ·exact ⟨b, o, h2, by simpa using h3 j v hv⟩
  ·obtain ⟨b', o', k1, k2⟩ := h5 _ v hv
   rw [hl] at k2
   refine ⟨b', o', k1, ?_⟩
   rw [← k2]
   congr 2
   rw [Nat.add_mul]
   omega
end

/-! ### Plain kinds of data -/
instance : Inhabited Str := ⟨[]⟩
def cInt (k : IntKind) : Cd Int where
 sz := 1
 rep _ n cs := cs = [.int k n]
 len h := by subst h; rfl
 mono _ h := h
 one h := by subst h; intro u hu; simp at hu; subst hu; rfl
 pos := by omega
 dflt := ⟨_, fun _ => rfl⟩
def cStr : Cd Str where
 sz := 1
 rep _ n cs := cs = [.string ⟨⟨n⟩⟩]
 len h := by subst h; rfl
 mono _ h := h
 one h := by subst h; intro u hu; simp at hu; subst hu; rfl
 pos := by omega
 dflt := ⟨_, fun _ => rfl⟩
def cSl {α : Type} [Inhabited α] (c : Cd α) : Cd (List α) where
 sz := 1
 rep V l cs := ∃ a k, cs = [.slice a l.length k] ∧ SlAt c V a k l
 len h := by obtain ⟨a, k, rfl, _⟩ := h; rfl
 mono hv h := by
  obtain ⟨a, k, rfl, h⟩ := h
  exact ⟨a, k, rfl, h.mono hv⟩
 one h := by obtain ⟨a, k, rfl, _⟩ := h; intro u hu; simp at hu; subst hu; rfl
 pos := by omega
 dflt := ⟨[.slice none 0 0], fun _ => ⟨none, 0, rfl, SlAt.nil⟩⟩

/-! ### Function values -/
def FnSpec1 {α β : Type} (P : Program) (f : Nat) (ca : List Value) (V : View) (mk : α → Value) (res : β → Value) (g : α → Option β) : Prop :=
 ∀ V', VLe V V' → ∀ y r, g y = some r → Spec P f ([mk y] ++ ca) V' (fun _ v => v = res r)
theorem FnSpec1.at {α β : Type} {P : Program} {f : Nat} {ca : List Value} {V : View} {mk : α → Value} {res : β → Value} {g : α → Option β} (h : FnSpec1 P f ca V mk res g) {y : α} {r : β} (hr : g y = some r) : Spec P f ([mk y] ++ ca) V (fun _ v => v = res r) :=
 h V (VLe.refl V) y r hr
def FnSpec2 {α α' β : Type} (P : Program) (f : Nat) (ca : List Value) (V : View) (mk : α → Value) (mk' : α' → Value) (res : β → Value) (g : α → α' → Option β) : Prop :=
 ∀ V', VLe V V' → ∀ y z r, g y z = some r → Spec P f ([mk y, mk' z] ++ ca) V' (fun _ v => v = res r)
theorem FnSpec2.mono {α α' β : Type} {P : Program} {f : Nat} {ca : List Value} {V V' : View} {mk : α → Value} {mk' : α' → Value} {res : β → Value} {g : α → α' → Option β} (h : FnSpec2 P f ca V mk mk' res g) (hv : VLe V V') : FnSpec2 P f ca V' mk mk' res g :=
 fun V1 h1 => h V1 (hv.trans h1)
theorem FnSpec2.at {α α' β : Type} {P : Program} {f : Nat} {ca : List Value} {V : View} {mk : α → Value} {mk' : α' → Value} {res : β → Value} {g : α → α' → Option β} (h : FnSpec2 P f ca V mk mk' res g) {y : α} {z : α'} {r : β} (hr : g y z = some r) : Spec P f ([mk y, mk' z] ++ ca) V (fun _ v => v = res r) :=
 h V (VLe.refl V) y z r hr

/-! ### Rules -/
section
variable {C : Ctx}
theorem Exec.seam {kt : Code} {k : List Kt} {L : Fr} {M : List OB} {V : View} (I : Fr → View → List OB → Prop) (hk : noOps k = true) (h1 : ∀ L V M, I L V M → Exec C ⟨k, L, M⟩ V)
  (h2 : Exec C ⟨.code kt :: .inLoop I :: k, L, M⟩ V) : Exec C ⟨.code kt :: k, L, M⟩ V := by
 refine Exec.of fun FR DF env t w g1 g2 g3 g4 g5 => ?_
 have := h2.to FR DF env t w g1 g2 g3 g4 trivial
 refine Go.wp_mono this fun e a2 w2 hp => ?_
 cases e with
 | normal =>
  obtain ⟨k1, k2, env2, L2, V2, M2, k3, k4, k5⟩ := hp
  cases a2
  simp only at k1 k2 k4
  subst k1
  exact (h1 L2 V2 M2 k5).to0 hk k2 k3 k4 .none
 | exit id => exact hp
 | goto l => exact hp
 | ret => exact hp
 | panic ch => exact hp
 | outgrown => exact hp
def rootsOk (lr : List REnt) : List (Nat × Bool) → Bool
 | [] => true
 | (r, _) :: G => match lookR lr r with
  | some ⟨_, c, .v (.bool _), _⟩ => match subC c G with
   | true => rootsOk lr G
   | false => false
  | _ => false
theorem Imp.of_true {lr : List REnt} {p : Prop} (h : p) : ∀ {G : List (Nat × Bool)}, Imp lr G p
 | [] => h
 | (r, b) :: G => by
  simp only [Imp]
  split
  ·exact fun _ => Imp.of_true h
  ·exact Imp.of_true h
theorem Imp.of_false {env : List Nat} {M : List OB} {lr : List REnt} {t : Array Value} (hR : ROk env M lr t) {p : Prop} : ∀ {G : List (Nat × Bool)}, rootsOk lr G = true → ¬ condT t G → Imp lr G p
 | [], _, h => absurd trivial h
 | (r, b) :: G, hr, h => by
  simp only [rootsOk] at hr
  split at hr <;> try (simp at hr; done)
  rename_i s c x r' he
  split at hr <;> try (simp at hr; done)
  rename_i hsub
  simp only [Imp, he]
  intro hx
  refine Imp.of_false hR hr fun hc => h ⟨?_, hc⟩
  have ht := ((hR r _ he).1 (subC_sound t G c hsub hc)).1
  rw [ht, ← hx]
  rfl
theorem Exec.callG {β : Type} (mk : β → Value) (y0 : β) {o : Oper} {rest all : List Oper} {lr : List REnt} {k : List Kt} {L : Fr} {M : List OB} {V : View} {G : List (Nat × Bool)} {d f : Nat} {args : List Value} {R : View → β → Prop}
  (hh : headOf C.nt all lr L o = some (G, d)) (hc : callOf (opd L lr) G o.op = some (f, args)) (hroots : rootsOk lr G = true) (hs : Imp lr G (Spec C.P f args V fun V' v => ∃ y, v = mk y ∧ R V' y))
  (h : ∀ V' y, VLe V V' → Imp lr G (R V' y) → Exec C ⟨.ops rest all (⟨d, G, .v (mk y), d⟩ :: lr) :: k, nextL G d (.v (mk y)) L, M⟩ V') : Exec C ⟨.ops (o :: rest) all lr :: k, L, M⟩ V := by
 refine Exec.of fun FR DF env t w h1 h2 h3 h4 h5 => ?_
 obtain ⟨hg, hd, hn, hf, hGL⟩ := headOf_some hh
 have hdt : d < t.size := by rw [h1]; simpa [Nat.blt_eq] using hn
 have hw := guard_sound h4 hg
 show wpList C.P ⟨all⟩ (post C FR DF k) (o :: rest) ⟨t, []⟩ w
 refine wpList_want ?_
 have fin : ∀ V' y w', VLe V V' → Imp lr G (R V' y) → WOk C.V0 FR env V' M w' → ∀ u, ((condT t G → u = mk y) ∧ (¬ condT t G → u = undef)) → post C FR DF (.ops rest all (⟨d, G, .v (mk y), d⟩ :: lr) :: k) .normal ⟨t.setIfInBounds d u, []⟩ w' := by
  intro V' y w' hv hR hW' u hu
  refine (h V' y hv hR).to FR DF env _ w' (by simpa using h1) hW' ?_ (h4.put hdt hf hu.1 hu.2 (guard_fresh hg hf) (.inl rfl) (fun _ => trivial)) (DOk.grow ⟨[], by simp⟩ hv ⟨[], by simp⟩ h5.same)
  rcases hGL with rfl | ⟨hne, hnone⟩
  ·rw [hu.1 trivial]
   exact h3.put (x := .v (mk y)) hdt trivial
  ·cases G with
   | nil => exact absurd rfl hne
   | cons g G => exact h3.put_new hnone u
 by_cases hcn : condT t G
 ·rw [if_pos (hw.2 hcn)]
  obtain ⟨hfn, hcall⟩ := hs.out h4 hcn
  unfold Oper.wp
  rw [callOf_wp (opd_sound h3 h4) hcn hc hfn w]
  refine (hcall w h2.holds).mono fun e w' ⟨v, V', p1, p2, p3, p4, p5, y, p6, p7⟩ => ?_
  subst p1; subst p6
  have hlt : ∀ b o, FR.blk b = some o → b < w.heap.size := fun b o ho => (Array.getElem?_eq_some_iff.1 (h2.frame b o ho)).1
  have hW' : WOk C.V0 FR env V' M w' := by
   refine ⟨p2.os.trans h2.os, p2.tape.trans h2.tape, p2.output.trans h2.output, fun b o ho => by rw [p2.block b (hlt b o ho)]; exact h2.frame b o ho, h2.le.trans p3, p4, ?_, h2.len, ?_, ?_, h2.apartF, h2.apart⟩
   ·intro a y hy
    rcases p5 a y hy with hy | hy
    ·exact h2.fresh a y hy
    ·right
     cases hb : FR.blk a.block with
     | none => rfl
     | some o => have := hlt _ o hb; omega
   ·intro i ob hob
    exact OB.sat_of rfl (fun _ _ => rfl) (fun x hx => hx) (h2.sat i ob hob) fun kk hk => p2.block kk (OB.own_lt (h2.sat i ob hob) hk)
   ·intro i ob a hob ha
    have := OB.own_lt (h2.sat i ob hob) ha
    cases hv : V' a with
    | none => rfl
    | some y =>
     rcases p5 a y hv with hy | hy
     ·rw [h2.apartV i ob a hob ha] at hy; simp at hy
     ·omega
  simp only [Act.put, hd]
  exact fin V' y w' p3 (Imp.of_true p7) hW' _ ⟨fun _ => rfl, fun hn => absurd hcn hn⟩
 ·rw [if_neg (fun e => hcn (hw.1 e))]
  simp only [Act.put, hd]
  exact fin V y0 w (VLe.refl V) (Imp.of_false h4 hroots hcn) h2 undef ⟨fun e => absurd e hcn, fun _ => rfl⟩
end
end Go.Proofs.YtglnnhmmipopiaaGreat

set_option linter.all false
namespace Go.Proofs.YtglnnhmmipopiaaGreat
theorem ixA {α : Type} {l : List α} {cs : List Value} {n sz : Nat} {i : Int} (hq : 0 ≤ i ∧ i < (l.length : Int)) (h1 : cs.length = l.length * sz) (h2 : cs.length = n * sz) (hs : 0 < sz) : 0 ≤ i ∧ i < (n : Int) := by
 have : l.length = n := Nat.eq_of_mul_eq_mul_right hs (h1.symm.trans h2)
 rw [← this]
 exact hq
theorem stB {α : Type} {l : List α} {cs : List Value} {sz : Nat} {i : Int} (hq : 0 ≤ i ∧ i < (l.length : Int)) (h1 : cs.length = l.length * sz) : i.toNat * sz + sz ≤ cs.length := by
 rw [h1]
 have h : i.toNat + 1 ≤ l.length := by omega
 calc i.toNat * sz + sz = (i.toNat + 1) * sz := by rw [Nat.add_mul, Nat.one_mul]
  _ ≤ l.length * sz := Nat.mul_le_mul_right _ h
theorem gslat1 {α : Type} [Inhabited α] {c : Cd α} {V : View} {a : Option Addr} {k : Nat} {x : Bool} {b : Bool} {F : Option (List α)} {r : List α} (hx : gcall (x == b) F = some r) (h : x = b → SlAt c V a k r) : SlAt c V a k r := by
 by_cases hb : x = b
 ·exact h hb
 ·have : (x == b) = false := by simpa using hb
  rw [this] at hx
  simp only [gcall, cond_false, Option.some.injEq] at hx
  rw [← hx]
  exact SlAt.nil
def substP (i b : Nat) : Fr → Fr
 | [] => []
 | (s, .ptr j o) :: L => match Nat.beq j i with
  | true => (s, .v (.pointer (some ⟨b, o, none⟩))) :: substP i b L
  | false => (s, .ptr j o) :: substP i b L
 | (s, x) :: L => (s, x) :: substP i b L
theorem substP_look {i b : Nat} {env : List Nat} (hb : envAt env i = b) : ∀ {L : Fr} {s : Nat} {x : SV}, lookL (substP i b L) s = some x → ∃ y, lookL L s = some y ∧ den env y = den env x ∧ (∀ M : List OB, y.ok M → x.ok M)
 | [], s, x, h => by simp [substP, lookL] at h
 | (d, y) :: L, s, x, h => by
  have key : ∀ z, den env y = den env z → (∀ M : List OB, y.ok M → z.ok M) → lookL ((d, z) :: substP i b L) s = some x → ∃ y', lookL ((d, y) :: L) s = some y' ∧ den env y' = den env x ∧ (∀ M : List OB, y'.ok M → x.ok M) := by
   intro z h1 h2 h3
   rw [lookL_cons] at h3 ⊢
   split at h3
   ·rename_i hd
    simp only [Option.some.injEq] at h3
    subst h3
    rw [if_pos hd]
    exact ⟨y, rfl, h1, h2⟩
   ·rename_i hd
    rw [if_neg hd]
    exact substP_look hb h3
  cases y with
  | ptr j o =>
   simp only [substP] at h
   split at h
   ·rename_i hj
    have := beq_nat hj
    subst this
    exact key (.v (.pointer (some ⟨b, o, none⟩))) (by simp [den, hb]) (fun _ _ => trivial) h
   ·exact key _ rfl (fun _ h => h) h
  | v z => exact key _ rfl (fun _ h => h) h
  | slc _ _ _ _ => exact key _ rfl (fun _ h => h) h
  | el _ _ => exact key _ rfl (fun _ h => h) h
section
variable {C : Ctx} (hT : TOk C.P C.T)
theorem Exec.fixA (i : Nat) {n sz ty : Nat} {cs : List Value} {k : List Kt} {L : Fr} {M : List OB} {V : View} {M' : Nat → List OB} {L' : Nat → Fr} {sv : List SV}
  (hk : noOps k = true) (hi : nth M i = some (.blk sv ty)) (hv : vals sv = some cs) (hl : Nat.beq cs.length (n * sz) = true) (hn : Nat.ble n 1000000 = true) (hs : ∀ b, setN M i (.row (.slice (some ⟨b, 0, none⟩) n n) cs ty sz) = some (M' b)) (hL : ∀ b, substP i b L = L' b)
  (h : ∀ b, Exec C ⟨k, L' b, M' b⟩ V) : Exec C ⟨k, L, M⟩ V := by
 refine Exec.of fun FR DF env t w h1 h2 h3 h4 h5 => ?_
 rw [nth_eq] at hi
 have hsat := (h2.sat i _ hi).1
 rw [vals_sound (env := env) hv] at hsat
 have hl := beq_nat hl
 have hn : n ≤ maxLen := Nat.le_trans (Nat.le_of_ble_eq_true hn) (by simp [maxLen])
 have hrow : rowSat w ty sz (.slice (some ⟨envAt env i, 0, none⟩) n n) cs := ⟨n, hl, .inr ⟨_, n, _, rfl, Nat.zero_le _, hsat, Nat.le_refl _, hn, by simp [hl], by simp [← hl]⟩⟩
 have hW := h2.upd (w' := w) (o' := .row (.slice (some ⟨envAt env i, 0, none⟩) n n) cs ty sz) hi (by simp) rfl rfl rfl (fun _ _ _ => rfl) hrow (fun a ha => .inl (by
  simp only [OB.own, Value.ownBlock, Option.some.injEq] at ha ⊢
  exact ha.symm))
 obtain ⟨_, hM'⟩ := setN_sound (hs (envAt env i))
 refine (h (envAt env i)).to0 hk (env := env) h1 (by rw [hM']; exact hW) (fun s x hx => ?_) DF
 rw [← hL] at hx
 obtain ⟨y, k1, k2, k3⟩ := substP_look (b := envAt env i) rfl hx
 obtain ⟨k4, k5⟩ := h3 s y k1
 exact ⟨by rw [k4, k2], SV.ok_mono (fun j hj => by rw [hM']; exact alive_set (by simp) hj) (k3 M k5)⟩
def iaAOf (T : List TyD) (od : Look) (G : List (Nat × Bool)) (op : Op) : Option (Nat × Nat × Int × Nat × Nat) :=
 match op with
 | .indexAddr t x i => match nth T t with
  | some d => match d.size, d.und with
   | _ + 1, .arr len e => match nth T e with
    | some ed => match ed.size with
     | 0 => none
     | sz + 1 => match ev od G x, ev od G i with
      | some (.v (.pointer (some ⟨b, o, none⟩))), some (.v (.int _ n)) => some (b, len, n, sz + 1, o)
      | _, _ => none
    | none => none
   | _, _ => none
  | none => none
 | _ => none
include hT in
theorem iaA_run {env : List Nat} {M : List OB} {t : Array Value} {od : Look} (hO : Tells env M t od) {G : List (Nat × Bool)} (hG : condT t G) {o : Oper} {b len sz o' : Nat} {n : Int}
  (hc : iaAOf C.T od G o.op = some (b, len, n, sz, o')) (hb : 0 ≤ n ∧ n < len) (w : World) :
  (execOp (⟨t, []⟩ : Act).eval o).run C.P w = .ok (.value (den env (.el (some ⟨b, o', none⟩) (n.toNat * sz)))) w := by
 unfold iaAOf at hc
 split at hc <;> try (simp at hc; done)
 rename_i ty x i hop
 split at hc <;> try (simp at hc; done)
 rename_i dd hd
 split at hc <;> try (simp at hc; done)
 rename_i m len' e hsz hu
 split at hc <;> try (simp at hc; done)
 rename_i ed hed
 split at hc <;> try (simp at hc; done)
 rename_i sz' hesz
 split at hc <;> try (simp at hc; done)
 rename_i b' o'' k' n' hx hi
 simp only [Option.some.injEq, Prod.mk.injEq] at hc
 obtain ⟨rfl, rfl, rfl, rfl, rfl⟩ := hc
 unfold execOp
 simp only [hop, ev_sound hO hG hx, ev_sound hO hG hi, den, Instr.indexAt, asIntOf, Sem.run_bind, Sem.run_pure, Result.andThen_ok, run_underlying (t_arr hT hd (by omega) hu), Instr.sureAddr]
 rw [if_pos hb]
 simp only [Sem.run_bind, t_size hT w hed (by omega), Result.andThen_ok, Sem.run_pure, hesz]
 simp [Addr.add_lit]
include hT in

theorem Exec.iaA {o : Oper} {rest all : List Oper} {lr : List REnt} {k : List Kt} {L : Fr} {M : List OB} {V : View} {G : List (Nat × Bool)} {d b len sz o' : Nat} {n : Int}
  (hh : headOf C.nt all lr L o = some (G, d)) (hc : iaAOf C.T (opd L lr) G o.op = some (b, len, n, sz, o')) (hb : Imp lr G (0 ≤ n ∧ n < len))
  (h : Exec C ⟨.ops rest all (⟨d, G, .el (some ⟨b, o', none⟩) (n.toNat * sz), d⟩ :: lr) :: k, nextL G d (.el (some ⟨b, o', none⟩) (n.toNat * sz)) L, M⟩ V) : Exec C ⟨.ops (o :: rest) all lr :: k, L, M⟩ V :=
 Exec.yieldsP (x := .el (some ⟨b, o', none⟩) (n.toNat * sz)) hh (fun _ _ w h3 h4 _ hG => ⟨⟨_, _, rfl⟩, iaA_run hT (opd_sound h3 h4) hG hc (hb.out h4 hG) w⟩) h
include hT in
theorem Exec.fiaA {o : Oper} {all : List Oper} {listed : List Bool} {ends : List Nat} {n0 : Nat} {mask : List Nat} {V1 : View} {m m' i : Nat} {lr : List REnt} {k : List Kt} {L : Fr} {M : List OB} {V : View} {G : List (Nat × Bool)} {d b len sz o' : Nat} {n : Int} {p : List (Nat × Bool)}
  (hh : headX C.nt all lr i L = some (o, G, d)) (hm : m' = m + 1) (hc : iaAOf C.T (opd L lr) G o.op = some (b, len, n, sz, o')) (hb : Imp lr G (0 ≤ n ∧ n < len))
  (h : Exec C ⟨.draw ⟨all, setT listed i, m, ends, n0, mask, V1, p, ⟨d, G, .el (some ⟨b, o', none⟩) (n.toNat * sz), d⟩ :: lr⟩ :: k, nextL G d (.el (some ⟨b, o', none⟩) (n.toNat * sz)) L, M⟩ V) : Exec C ⟨.draw ⟨all, listed, m', ends, n0, mask, V1, (i, true) :: p, lr⟩ :: k, L, M⟩ V :=
 Exec.fyields (x := .el (some ⟨b, o', none⟩) (n.toNat * sz)) hh hm (fun _ _ w h3 h4 _ _ hG => ⟨⟨_, _, rfl⟩, iaA_run hT (opd_sound h3 h4) hG hc (hb.out h4 hG) w⟩) h

/-! ### Slices of slices -/
def slvOf (T : List TyD) (od : Look) (G : List (Nat × Bool)) (op : Op) : Option (Option Addr × Nat × Nat × Option Int × Option Int × Nat) :=
 match op with
 | .slice t x lo hi none => match sliceTy T t with
  | some (_, sz, _, _) => match ev od G x, bdOf od G lo, bdOf od G hi with
   | some (.v (.slice a n c)), some p, some q => some (a, n, c, p, q, sz)
   | _, _, _ => none
  | none => none
 | _ => none
include hT in
theorem slv_run {env : List Nat} {M : List OB} {t : Array Value} {od : Look} (hO : Tells env M t od) {G : List (Nat × Bool)} (hG : condT t G) {o : Oper} {a : Option Addr} {n c sz : Nat} {p q : Option Int}
  (hc : slvOf C.T od G o.op = some (a, n, c, p, q, sz)) (hb : 0 ≤ loN p ∧ loN p ≤ hiN n q ∧ hiN n q ≤ c) (w : World) :
  (execOp (⟨t, []⟩ : Act).eval o).run C.P w = .ok (.value (.slice (if c = (loN p).toNat then a else a.map (·.add ((loN p).toNat * sz))) ((hiN n q).toNat - (loN p).toNat) (c - (loN p).toNat))) w := by
 obtain ⟨b1, b2, b3⟩ := hb
 unfold slvOf at hc
 split at hc <;> try (simp at hc; done)
 rename_i ty x lo hi hop
 split at hc <;> try (simp at hc; done)
 rename_i e sz' bys zs hts
 split at hc <;> try (simp at hc; done)
 rename_i a' n' c' p' q' hx hlo hhi
 simp only [Option.some.injEq, Prod.mk.injEq] at hc
 obtain ⟨rfl, rfl, rfl, rfl, rfl, rfl⟩ := hc
 obtain ⟨u1, u2, u3, u4, ti, z, i1, i2, i3, i4, i5, i6⟩ := sliceTy_sound hT hts
 obtain ⟨v1, g1, g2⟩ := bdOf_sound hO hG hlo
 obtain ⟨v2, g3, g4⟩ := bdOf_sound hO hG hhi
 have hsz : (sizeOf e).run C.P w = .ok sz' w := by simp [sizeOf, typeInfo, i1, i3]
 have hel : C.P.elem ty = e := by simp [Program.elem, u1]
 have ht : C.P.underlying ty = some (.slice (C.P.elem ty)) := by rw [hel]; exact u1
 rw [← hel] at hsz
 unfold execOp
 simp only [hop, ev_sound hO hG hx, den, g1, g3, Option.map_none, Sem.run_bind]
 rw [run_sliceAt_slice (h := ht)]
 rcases g2 with ⟨rfl, rfl⟩ | ⟨i, k, rfl, rfl⟩ <;> rcases g4 with ⟨rfl, rfl⟩ | ⟨i', k', rfl, rfl⟩ <;> simp only [loN, hiN] at b1 b2 b3 ⊢
 ·rw [run_slice_all (ht := ht)]
  simp [hsz, sliced]
 ·rw [run_slice_h (ht := ht) (h0 := by omega) (h2 := b3)]
  simp [hsz, sliced]
 ·rw [run_slice_l (ht := ht) (h0 := b1) (h1 := b2)]
  by_cases hq : c' = i.toNat <;> simp [hsz, sliced, hq]
 ·rw [run_slice_lh (ht := ht) (h0 := b1) (h1 := b2) (h2 := b3)]
  by_cases hq : c' = i.toNat <;> simp [hsz, sliced, hq]
theorem SlAt.part {α : Type} [Inhabited α] {c : Cd α} {V : View} {a : Option Addr} {cap : Nat} {l : List α} (h : SlAt c V a cap l) (lo hi : Nat) (h1 : lo ≤ hi) (h2 : hi ≤ l.length) :
  SlAt c V (if cap = lo then a else a.map (·.add (lo * c.sz))) (cap - lo) ((l.take hi).drop lo) := by
 have h3 := h.1
 refine ⟨by simp only [List.length_drop, List.length_take]; omega, ?_⟩
 intro i x hx
 have hlt := (List.getElem?_eq_some_iff.1 hx).1
 simp only [List.length_drop, List.length_take] at hlt
 simp only [List.getElem?_drop, List.getElem?_take] at hx
 rw [if_pos (by omega)] at hx
 obtain ⟨cs, k1, b, o, rfl, k2⟩ := h.2 _ _ hx
 refine ⟨cs, k1, b, o + lo * c.sz, ?_, fun j v hj => ?_⟩
 ·rw [if_neg (by omega)]
  simp [Addr.add_lit]
 ·have := k2 j v hj
  rw [show o + lo * c.sz + i * c.sz + j = o + (lo + i) * c.sz + j by rw [Nat.add_mul]; omega]
  exact this
include hT in

theorem Exec.slv {α : Type} [Inhabited α] {c : Cd α} {l : List α} {o : Oper} {rest all : List Oper} {lr : List REnt} {k : List Kt} {L : Fr} {M : List OB} {V : View} {d : Nat} {a : Option Addr} {n cp sz : Nat} {p q : Option Int} {lo hi : Int}
  (hh : headOf C.nt all lr L o = some ([], d)) (hc : slvOf C.T (opd L lr) [] o.op = some (a, n, cp, p, q, sz)) (hlo : loN p = lo) (hhi : hiN n q = hi) (hs : SlAt c V a cp l) (hn : n = l.length) (hsz : sz = c.sz)
  (hb : 0 ≤ lo ∧ lo ≤ hi ∧ hi ≤ (l.length : Int))
  (h : ∀ a' k', SlAt c V a' k' ((l.take hi.toNat).drop lo.toNat) → Exec C ⟨.ops rest all (⟨d, [], .v (.slice a' ((l.take hi.toNat).drop lo.toNat).length k'), d⟩ :: lr) :: k, (d, .v (.slice a' ((l.take hi.toNat).drop lo.toNat).length k')) :: L, M⟩ V) : Exec C ⟨.ops (o :: rest) all lr :: k, L, M⟩ V := by
 subst hlo; subst hhi; subst hsz; subst hn
 have hcap := hs.1
 have hlen : ((l.take (hiN l.length q).toNat).drop (loN p).toNat).length = (hiN l.length q).toNat - (loN p).toNat := by
  simp only [List.length_drop, List.length_take]
  omega
 have hx := h (if cp = (loN p).toNat then a else a.map (·.add ((loN p).toNat * c.sz))) (cp - (loN p).toNat) (hs.part _ _ (by omega) (by omega))
 rw [hlen] at hx
 exact Exec.yieldsP (G := []) (x := .v (.slice (if cp = (loN p).toNat then a else a.map (·.add ((loN p).toNat * c.sz))) ((hiN l.length q).toNat - (loN p).toNat) (cp - (loN p).toNat))) hh (fun _ _ w h3 h4 _ hG => ⟨trivial, slv_run hT (opd_sound h3 h4) hG hc ⟨hb.1, hb.2.1, by omega⟩ w⟩) hx
include hT in

theorem Exec.fgslv {α : Type} [Inhabited α] {c : Cd α} {l : List α} {o : Oper} {all : List Oper} {lr : List REnt} {k : List Kt} {L : Fr} {M : List OB} {V V1 : View} {listed : List Bool} {i m m' d : Nat} {ends n0 mask} {pp : List (Nat × Bool)} {G : List (Nat × Bool)} {a : Option Addr} {n cp sz : Nat} {p q : Option Int} {lo hi : Int} {g : Bool}
  (hh : headX C.nt all lr i L = some (o, G, d)) (hm : m' = m + 1) (hc : slvOf C.T (opd L lr) G o.op = some (a, n, cp, p, q, sz)) (hlo : loN p = lo) (hhi : hiN n q = hi) (hs : SlAt c V a cp l) (hn : n = l.length) (hsz : sz = c.sz)
  (hg : Imp lr G (g = true)) (hb : g = true → 0 ≤ lo ∧ lo ≤ hi ∧ hi ≤ (l.length : Int))
  (h : ∀ a' k', SlAt c V a' k' (_root_.cond g ((l.take hi.toNat).drop lo.toNat) []) → Exec C ⟨.draw ⟨all, setT listed i, m, ends, n0, mask, V1, pp, ⟨d, G, .v (.slice a' (_root_.cond g ((l.take hi.toNat).drop lo.toNat) []).length k'), d⟩ :: lr⟩ :: k, nextL G d (.v (.slice a' (_root_.cond g ((l.take hi.toNat).drop lo.toNat) []).length k')) L, M⟩ V) :
  Exec C ⟨.draw ⟨all, listed, m', ends, n0, mask, V1, (i, true) :: pp, lr⟩ :: k, L, M⟩ V := by
 subst hlo; subst hhi; subst hsz; subst hn
 cases g with
 | false =>
  exact Exec.fyields (x := .v (.slice none 0 0)) hh hm (fun _ _ w h3 h4 _ _ hG => absurd (hg.out h4 hG) (by simp)) (h none 0 ⟨by simp, fun i x hx => by simp at hx⟩)
 | true =>
  have hb' := hb rfl
  have hcap := hs.1
  have hlen : ((l.take (hiN l.length q).toNat).drop (loN p).toNat).length = (hiN l.length q).toNat - (loN p).toNat := by
   simp only [List.length_drop, List.length_take]
   omega
  have hx := h (if cp = (loN p).toNat then a else a.map (·.add ((loN p).toNat * c.sz))) (cp - (loN p).toNat) (hs.part _ _ (by omega) (by omega))
  simp only [_root_.cond_true] at hx
  rw [hlen] at hx
  exact Exec.fyields (G := G) (x := .v (.slice (if cp = (loN p).toNat then a else a.map (·.add ((loN p).toNat * c.sz))) ((hiN l.length q).toNat - (loN p).toNat) (cp - (loN p).toNat))) hh hm (fun _ _ w h3 h4 _ _ hG => ⟨trivial, slv_run hT (opd_sound h3 h4) hG hc ⟨hb'.1, hb'.2.1, by omega⟩ w⟩) hx

/-! ### append(s, l...): l lies open -/
theorem RdAt.cat {V : View} {a : Option Addr} {off : Nat} {cs ds : List Value} (h : RdAt V a off cs) (h' : RdAt V a (off + cs.length) ds) : RdAt V a off (cs ++ ds) := by
 obtain ⟨b, o, rfl, h1⟩ := h
 obtain ⟨b', o', e, h2⟩ := h'
 simp only [Option.some.injEq, Addr.mk.injEq, and_true] at e
 obtain ⟨rfl, rfl⟩ := e
 refine ⟨b, o, rfl, fun j u hj => ?_⟩
 rw [List.getElem?_append] at hj
 split at hj
 ·exact h1 j u hj
 ·have := h2 _ u hj
  rw [show o + off + j = o + (off + cs.length) + (j - cs.length) by omega]
  exact this
theorem SlAt.rowFrom {α : Type} [Inhabited α] {c : Cd α} {V : View} {a : Option Addr} : ∀ (l : List α) (off : Nat), (∀ i x, l[i]? = some x → ∃ cs, c.rep V x cs ∧ RdAt V a ((off + i) * c.sz) cs) →
  ∃ news, RowRep c V l news ∧ (l ≠ [] → RdAt V a (off * c.sz) news)
 | [], _, _ => ⟨[], rfl, fun h => absurd rfl h⟩
 | x :: l, off, h => by
  obtain ⟨cs, r1, r2⟩ := h 0 x rfl
  obtain ⟨news, r3, r4⟩ := SlAt.rowFrom l (off + 1) (fun i y hy => by
   obtain ⟨ds, q1, q2⟩ := h (i + 1) y hy
   exact ⟨ds, q1, by rw [show off + 1 + i = off + (i + 1) by omega]; exact q2⟩)
  refine ⟨cs ++ news, ⟨cs, news, rfl, r1, r3⟩, fun _ => ?_⟩
  rw [Nat.add_zero] at r2
  cases l with
  | nil => rw [show news = [] from r3, List.append_nil]; exact r2
  | cons y l =>
   refine RdAt.cat r2 ?_
   rw [c.len r1, show off * c.sz + c.sz = (off + 1) * c.sz by rw [Nat.add_mul, Nat.one_mul]]
   exact r4 (by simp)
theorem SlAt.rowAll {α : Type} [Inhabited α] {c : Cd α} {V : View} {a : Option Addr} {k : Nat} {l : List α} (h : SlAt c V a k l) : ∃ news, RowRep c V l news ∧ (l ≠ [] → RdAt V a 0 news) := by
 have := SlAt.rowFrom (c := c) (V := V) (a := a) l 0 (fun i x hx => by rw [Nat.zero_add]; exact h.2 i x hx)
 rwa [Nat.zero_mul] at this
theorem RowRep.ones {α : Type} [Inhabited α] {c : Cd α} {V : View} : ∀ {l : List α} {cs : List Value}, RowRep c V l cs → ∀ u ∈ cs, u.oneCell' = true
 | [], cs, h, u, hu => by rw [show cs = [] from h] at hu; cases hu
 | x :: l, cs, ⟨e, r, h0, h1, h2⟩, u, hu => by
  subst h0
  rcases List.mem_append.1 hu with h | h
  ·exact c.one h1 u h
  ·exact RowRep.ones h2 u h
include hT in

theorem Exec.appS {α : Type} [Inhabited α] {cd : Cd α} (i : Nat) {o : Oper} {rest all : List Oper} {lr : List REnt} {k : List Kt} {L : Fr} {M : List OB} {V : View} {d : Nat} {sa sb : Operand} {t e sz bys n c m c2 k2 nm : Nat} {a a2 : Option Addr} {cs : List Value} {l : List α} {M' : List Value → Option Addr → Nat → List OB}
  (hh : headOf C.nt all lr L o = some ([], d)) (hc : appTy C.T o.op = some (sa, sb, t, e, sz, bys)) (ha : ev (opd L lr) [] sa = some (.v (.slice a n c))) (hb : ev (opd L lr) [] sb = some (.v (.slice a2 m c2)))
  (hi : nth M i = some (.row (.slice a n c) cs e sz)) (hsz : sz = cd.sz) (hsl : SlAt cd V a2 k2 l) (hm : m = l.length) (hnm : n + m = nm) (hs : ∀ news a' c', setN M i (.row (.slice a' nm c') (cs ++ news) e sz) = some (M' news a' c')) (hk : wrOk i k = true)
  (hbnd : nm * bys ≤ 140737488355328)
  (h : ∀ news, RowRep cd V l news → ∀ a' c', Exec C ⟨.ops rest all (⟨d, [], .v (.slice a' nm c'), d⟩ :: lr) :: k, (d, .v (.slice a' nm c')) :: L, M' news a' c'⟩ V) : Exec C ⟨.ops (o :: rest) all lr :: k, L, M⟩ V := by
 subst hnm
 obtain ⟨news, hnews, hrd⟩ := hsl.rowAll
 have hl : news.length = m * sz := by rw [hnews.len, hm, hsz]
 replace h := h news hnews
 replace hs := hs news
 refine Exec.of fun FR DF env t' w g1 h2 h3 h4 h5 => ?_
 rw [nth_eq] at hi
 have hb' := ev_sound (opd_sound h3 h4) (G := []) trivial hb
 have core : ∃ a' c' w', (execOp (⟨t', []⟩ : Act).eval o).run C.P w = .ok (.value (.slice a' (n + m) c')) w' ∧ WOk C.V0 FR env V (M.set i (.row (.slice a' (n + m) c') (cs ++ news) e sz)) w' := by
  by_cases hl0 : l = []
  ·subst hl0
   obtain rfl : news = [] := hnews
   obtain rfl : m = 0 := hm
   obtain ⟨hop, zs, hts⟩ := appTy_op hc
   obtain ⟨u1, u2, u3, _, ti, z, i1, i2, i3, i4, i5, _⟩ := sliceTy_sound hT hts
   have hnc : n ≤ c := by
    obtain ⟨r1, r2, r3, r4⟩ := rowSat_some (h2.sat i _ hi)
    rcases r4.2 with ⟨h0, _⟩ | ⟨g, cap, cur, he, hbg, hg, hnc, _⟩
    ·simp only [Value.slice.injEq] at h0; omega
    ·simp only [Value.slice.injEq] at he; omega
   refine app_core hT h2 h3 h4 hc ha hi (ad := ⟨0, 0, none⟩) (c2 := c2) hb' ?_ hl (fun j u hu => by simp at hu) (fun u hu => by cases hu) hbnd
   cases a2 <;> cases a <;> simp [den, Builtin.append_, run_underlying u1, sizeOf, typeInfo, i1, Builtin.lenOf, Builtin.firstCells, loadCells, loadCellsFrom, hnc]
  ·obtain ⟨b, o', rfl, hcell⟩ := hrd hl0
   exact app_core hT h2 h3 h4 hc ha hi hb' rfl hl (fun jj u hu => by
    rw [Addr.add_lit]; simpa using h2.holds _ _ (hcell jj u hu)) hnews.ones hbnd
 obtain ⟨a', c', w', p1, p2⟩ := core
 obtain ⟨_, hM'⟩ := setN_sound (hs a' c')
 rw [← hM'] at p2
 have hal : ∀ q, alive M q → alive (M' news a' c') q := fun q hq => by rw [hM']; exact alive_set (by simp) hq
 obtain ⟨hg, hd, hn, hf, _⟩ := headOf_some hh
 have hdt : d < t'.size := by rw [g1]; simpa [Nat.blt_eq] using hn
 have hw := guard_sound h4 hg
 show wpList C.P ⟨all⟩ (post C FR DF k) (o :: rest) ⟨t', []⟩ w
 refine wpList_want ?_
 rw [if_pos (hw.2 trivial)]
 refine wp_value p1 ?_
 simp only [Act.put, hd]
 have h3' : LOk env (M' news a' c') L t' := fun s x hx => ⟨(h3 s x hx).1, SV.ok_mono hal (h3 s x hx).2⟩
 have h4' : ROk env (M' news a' c') lr t' := by rw [hM']; exact h4.set (by simp)
 refine (h a' c').to FR DF env (t'.setIfInBounds d (.slice a' (n + m) c')) w' (by simpa using g1) p2 (h3'.put (x := .v _) hdt trivial)
  (h4'.put hdt hf (fun _ => rfl) (fun hn => absurd trivial hn) rfl (.inl rfl) (fun _ => trivial)) ?_
 show DOk DF env V (M' news a' c') _
 rw [hM']
 exact DOk.write hk h5.same

/-! ### Division, shifts -/
def ariOk (op : BinOp) (y : Int) : Prop :=
 match op with
 | .shl => 0 ≤ y
 | .shr => 0 ≤ y
 | _ => y ≠ 0
def shlI (k : IntKind) (x y : Int) : Int := k.wrap (x * 2 ^ (min y.toNat k.bits))
def shrI (k : IntKind) (x y : Int) : Int := x.fdiv (2 ^ (min y.toNat k.bits))
def quoI (k : IntKind) (x y : Int) : Int := k.wrap (x.tdiv y)
def remI (x y : Int) : Int := x.tmod y
def ariOf (od : Look) (G : List (Nat × Bool)) (op : Op) : Option (BinOp × IntKind × IntKind × Int × Int × Int) :=
 match op with
 | .binOp op _ x y _ => match ev od G x, ev od G y with
  | some (.v (.int k a)), some (.v (.int k' b)) => match op with
   | .shl => some (.shl, k, k', a, b, shlI k a b)
   | .shr => some (.shr, k, k', a, b, shrI k a b)
   | .quo => match kEq k k' with
    | true => some (.quo, k, k', a, b, quoI k a b)
    | false => none
   | .rem => match kEq k k' with
    | true => some (.rem, k, k', a, b, remI a b)
    | false => none
   | _ => none
  | _, _ => none
 | _ => none
omit hT in
theorem ari_run {P : Program} {env : List Nat} {M : List OB} {t : Array Value} {od : Look} (hO : Tells env M t od) {G : List (Nat × Bool)} (hG : condT t G) {o : Oper} {op : BinOp} {k k' : IntKind} {a b r : Int}
  (hc : ariOf od G o.op = some (op, k, k', a, b, r)) (hb : ariOk op b) (w : World) : (execOp (⟨t, []⟩ : Act).eval o).run P w = .ok (.value (.int k r)) w := by
 unfold ariOf at hc
 split at hc <;> try (simp at hc; done)
 rename_i op' ty x y ty' hop
 split at hc <;> try (simp at hc; done)
 rename_i k1 a1 k2 b1 hx hy
 have e1 := ev_sound hO hG hx
 have e2 := ev_sound hO hG hy
 simp only [den] at e1 e2
 split at hc <;> try (simp at hc; done)
 ·simp only [Option.some.injEq, Prod.mk.injEq] at hc
  obtain ⟨rfl, rfl, rfl, rfl, rfl, rfl⟩ := hc
  have hb : 0 ≤ b1 := hb
  unfold execOp
  simp [hop, e1, e2, eqGuard, binOp, Op.shift, shlI, Int.not_lt.2 hb]
 ·simp only [Option.some.injEq, Prod.mk.injEq] at hc
  obtain ⟨rfl, rfl, rfl, rfl, rfl, rfl⟩ := hc
  have hb : 0 ≤ b1 := hb
  unfold execOp
  simp [hop, e1, e2, eqGuard, binOp, Op.shift, shrI, Int.not_lt.2 hb]
 ·split at hc <;> try (simp at hc; done)
  rename_i hk
  have := kEq_eq hk
  subst this
  simp only [Option.some.injEq, Prod.mk.injEq] at hc
  obtain ⟨rfl, rfl, rfl, rfl, rfl, rfl⟩ := hc
  have hb : b1 ≠ 0 := hb
  unfold execOp
  simp [hop, e1, e2, eqGuard, binOp, Op.intDiv, quoI, hb]
 ·split at hc <;> try (simp at hc; done)
  rename_i hk
  have := kEq_eq hk
  subst this
  simp only [Option.some.injEq, Prod.mk.injEq] at hc
  obtain ⟨rfl, rfl, rfl, rfl, rfl, rfl⟩ := hc
  have hb : b1 ≠ 0 := hb
  unfold execOp
  simp [hop, e1, e2, eqGuard, binOp, Op.intDiv, remI, hb]
omit hT in
theorem Exec.ari {o : Oper} {rest all : List Oper} {lr : List REnt} {k : List Kt} {L : Fr} {M : List OB} {V : View} {G : List (Nat × Bool)} {d : Nat} {op : BinOp} {ki k' : IntKind} {a b r : Int}
  (hh : headOf C.nt all lr L o = some (G, d)) (hc : ariOf (opd L lr) G o.op = some (op, ki, k', a, b, r)) (hb : Imp lr G (ariOk op b))
  (h : Exec C ⟨.ops rest all (⟨d, G, .v (.int ki r), d⟩ :: lr) :: k, nextL G d (.v (.int ki r)) L, M⟩ V) : Exec C ⟨.ops (o :: rest) all lr :: k, L, M⟩ V :=
 Exec.yieldsP (x := .v (.int ki r)) hh (fun _ _ w h3 h4 _ hG => ⟨trivial, ari_run (opd_sound h3 h4) hG hc (hb.out h4 hG) w⟩) h
omit hT in
theorem Exec.fari {o : Oper} {all : List Oper} {listed : List Bool} {ends : List Nat} {n0 : Nat} {mask : List Nat} {V1 : View} {m m' i : Nat} {lr : List REnt} {k : List Kt} {L : Fr} {M : List OB} {V : View} {G : List (Nat × Bool)} {d : Nat} {op : BinOp} {ki k' : IntKind} {a b r : Int} {p : List (Nat × Bool)}
  (hh : headX C.nt all lr i L = some (o, G, d)) (hm : m' = m + 1) (hc : ariOf (opd L lr) G o.op = some (op, ki, k', a, b, r)) (hb : Imp lr G (ariOk op b))
  (h : Exec C ⟨.draw ⟨all, setT listed i, m, ends, n0, mask, V1, p, ⟨d, G, .v (.int ki r), d⟩ :: lr⟩ :: k, nextL G d (.v (.int ki r)) L, M⟩ V) : Exec C ⟨.draw ⟨all, listed, m', ends, n0, mask, V1, (i, true) :: p, lr⟩ :: k, L, M⟩ V :=
 Exec.fyields (x := .v (.int ki r)) hh hm (fun _ _ w h3 h4 _ _ hG => ⟨trivial, ari_run (opd_sound h3 h4) hG hc (hb.out h4 hG) w⟩) h

/-! ### Closures -/
def substR (i b : Nat) : List REnt → List REnt
 | [] => []
 | ⟨s, c, .ptr j o, r⟩ :: L => match Nat.beq j i with
  | true => ⟨s, c, .v (.pointer (some ⟨b, o, none⟩)), r⟩ :: substR i b L
  | false => ⟨s, c, .ptr j o, r⟩ :: substR i b L
 | e :: L => e :: substR i b L
theorem substR_look {i b : Nat} {env : List Nat} (hb : envAt env i = b) : ∀ {lr : List REnt} {s : Nat} {e : REnt}, lookR (substR i b lr) s = some e → ∃ e', lookR lr s = some e' ∧ e'.c = e.c ∧ e'.r = e.r ∧ den env e'.x = den env e.x ∧ (∀ M : List OB, e'.x.ok M → e.x.ok M)
 | [], s, e, h => by simp [substR, lookR] at h
 | ⟨d, c, y, r⟩ :: lr, s, e, h => by
  have key : ∀ z, den env y = den env z → (∀ M : List OB, y.ok M → z.ok M) → lookR (⟨d, c, z, r⟩ :: substR i b lr) s = some e → ∃ e', lookR (⟨d, c, y, r⟩ :: lr) s = some e' ∧ e'.c = e.c ∧ e'.r = e.r ∧ den env e'.x = den env e.x ∧ (∀ M : List OB, e'.x.ok M → e.x.ok M) := by
   intro z h1 h2 h3
   rw [lookR_cons] at h3 ⊢
   split at h3
   ·rename_i hd
    simp only [Option.some.injEq] at h3
    subst h3
    rw [if_pos hd]
    exact ⟨_, rfl, rfl, rfl, h1, h2⟩
   ·rename_i hd
    rw [if_neg hd]
    exact substR_look hb h3
  cases y with
  | ptr j o =>
   simp only [substR] at h
   split at h
   ·rename_i hj
    have := beq_nat hj
    subst this
    exact key (.v (.pointer (some ⟨b, o, none⟩))) (by simp [den, hb]) (fun _ _ => trivial) h
   ·exact key _ rfl (fun _ h => h) h
  | v z => exact key _ rfl (fun _ h => h) h
  | slc _ _ _ _ => exact key _ rfl (fun _ h => h) h
  | el _ _ => exact key _ rfl (fun _ h => h) h
theorem plainK_lr {r a : List Oper} {l l' : List REnt} {k : List Kt} (h : plainK (.ops r a l :: k) = true) : plainK (.ops r a l' :: k) = true := by
 cases k with
 | nil => rfl
 | cons x k => cases x <;> first | rfl | (simp [plainK] at h)
omit hT in

theorem Exec.openB (i : Nat) {rest all : List Oper} {lr : List REnt} {k : List Kt} {L : Fr} {M M' : List OB} {V : View} {ty : Nat} {sv : List SV} {vs : List Value} {L' : Nat → Fr} {lr' : Nat → List REnt}
  (hk : plainK (.ops rest all lr :: k) = true) (hi : nth M i = some (.blk sv ty)) (hv : vals sv = some vs) (hs : setN M i .unk = some M') (hL : ∀ b, substP i b L = L' b) (hR : ∀ b, substR i b lr = lr' b)
  (h : ∀ V' b, VLe V V' → RdAt V' (some ⟨b, 0, none⟩) 0 vs → Exec C ⟨.ops rest all (lr' b) :: k, L' b, M'⟩ V') : Exec C ⟨.ops rest all lr :: k, L, M⟩ V := by
 obtain ⟨_, rfl⟩ := setN_sound hs
 rw [nth_eq] at hi
 refine Exec.of fun FR DF env t w h1 h2 h3 h4 h5 => ?_
 obtain ⟨V', v1, v2, hW⟩ := h2.openBlk hi hv
 have hal : ∀ q, alive M q → alive (M.set i .unk) q := fun q hq => alive_set (by simp) hq
 refine (h V' (envAt env i) v1 v2).to FR DF env t w h1 hW (fun s x hx => ?_) (fun s e he => ?_) (plainK_D (plainK_lr hk) _ _ _ _)
 ·rw [← hL] at hx
  obtain ⟨y, k1, k2, k3⟩ := substP_look (b := envAt env i) rfl hx
  obtain ⟨k4, k5⟩ := h3 s y k1
  exact ⟨by rw [k4, k2], SV.ok_mono hal (k3 M k5)⟩
 ·have he : lookR (lr' (envAt env i)) s = some e := he
  rw [← hR] at he
  obtain ⟨e', k1, k2, k3, k4, k5⟩ := substR_look (b := envAt env i) rfl he
  have hh4 : ROk env M lr t := h4
  obtain ⟨g1, g2, g3⟩ := hh4 s e' k1
  rw [k2] at g1 g2
  rw [k3] at g3
  exact ⟨fun hc => ⟨by rw [(g1 hc).1, k4], SV.ok_mono hal (k5 M (g1 hc).2)⟩, g2, g3⟩
def mkfOf (od : Look) (G : List (Nat × Bool)) (op : Op) : Option (Fn × List Value × List Value) :=
 match op with
 | .makeFunc fn ⟨fi⟩ ⟨ca⟩ => match evs od G fi, evs od G ca with
  | some a, some b => some (fn, a, b)
  | _, _ => none
 | _ => none
omit hT in

theorem Exec.mkf {o : Oper} {rest all : List Oper} {lr : List REnt} {k : List Kt} {L : Fr} {M : List OB} {V : View} {G : List (Nat × Bool)} {d : Nat} {fn : Fn} {a b : List Value}
  (hh : headOf C.nt all lr L o = some (G, d)) (hc : mkfOf (opd L lr) G o.op = some (fn, a, b))
  (h : Exec C ⟨.ops rest all (⟨d, G, .v (.func fn ⟨a⟩ ⟨b⟩), d⟩ :: lr) :: k, nextL G d (.v (.func fn ⟨a⟩ ⟨b⟩)) L, M⟩ V) : Exec C ⟨.ops (o :: rest) all lr :: k, L, M⟩ V := by
 refine Exec.yieldsP (x := .v (.func fn ⟨a⟩ ⟨b⟩)) hh (fun _ _ w h3 h4 _ hG => ⟨trivial, ?_⟩) h
 unfold mkfOf at hc
 split at hc <;> try (simp at hc; done)
 rename_i fn' fi ca hop
 split at hc <;> try (simp at hc; done)
 rename_i a' b' ha hb
 simp only [Option.some.injEq, Prod.mk.injEq] at hc
 obtain ⟨rfl, rfl, rfl⟩ := hc
 have e1 := evs_sound (opd_sound h3 h4) hG ha
 have e2 := evs_sound (opd_sound h3 h4) hG hb
 unfold execOp
 simp [hop, Instr.makeFunc, den, e1, e2]
end
end Go.Proofs.YtglnnhmmipopiaaGreat

set_option linter.all false
namespace Go.Proofs.YtglnnhmmipopiaaGreat
open Go.ChangeShapes Go.WideShapes Go.ChangeAt Go.RowKit
def Opens {α : Type} [Inhabited α] (P : Program) (t : Nat) (c : Cd α) (ok : α → Prop) : Prop :=
 ∀ (H : Type) (enc : TypeId × Value → H) (W : World) (fuel : Nat) (cs : List Value) (d : DataW H × List MemPlace), DataW.trod enc P W 0 (fun _ => true) true fuel t cs = some d → ∃ x, c.rep (fun a => W.cell? a) x cs ∧ ok x
def okI (k : IntKind) (n : Int) : Prop := k.min ≤ n ∧ n ≤ k.max
def okS (s : Str) : Prop := s.length ≤ 9223372036854775807
theorem opens_int {P : Program} {t : Nat} {k : IntKind} (ht : P.underlying t = some (.int k)) : Opens P t (cInt k) (okI k) := by
 intro H enc W fuel cs d h
 obtain ⟨n, rfl, _, hw⟩ := DataW.trod_int ht h
 simp only [Lit.wf, Bool.and_eq_true, decide_eq_true_eq] at hw
 exact ⟨n, rfl, hw⟩
theorem opens_str {P : Program} {t : Nat} (ht : P.underlying t = some .string) : Opens P t cStr okS := by
 intro H enc W fuel cs d h
 obtain ⟨s, rfl, _, hs⟩ := DataW.trod_string ht h
 exact ⟨s.data.toList, rfl, by
  have : s.data.toList.length ≤ maxLen := hs
  simpa [okS, maxLen] using this⟩
theorem exists_list {α : Type} {Q : Nat → α → Prop} : ∀ {n : Nat}, (∀ i, i < n → ∃ x, Q i x) → ∃ l : List α, l.length = n ∧ ∀ (i : Nat) (x : α), l[i]? = some x → Q i x
 | 0, _ => ⟨[], rfl, fun i x h => by simp at h⟩
 | n + 1, h => by
  obtain ⟨l, h1, h2⟩ := exists_list (n := n) fun i hi => h i (by omega)
  obtain ⟨x, hx⟩ := h n (by omega)
  refine ⟨l ++ [x], by simp [h1], fun i y hy => ?_⟩
  rw [List.getElem?_append] at hy
  split at hy
  ·exact h2 i y hy
  ·rename_i hi
   have : i - l.length = 0 := by
    refine Classical.byContradiction fun hc => ?_
    obtain ⟨k, hk⟩ : ∃ k, i - l.length = k + 1 := ⟨i - l.length - 1, by omega⟩
    rw [hk] at hy
    simp at hy
   rw [this] at hy
   simp at hy
   subst hy
   rw [show i = n by omega]
   exact hx
theorem openV_int {H : Type} {enc : TypeId × Value → H} {P : Program} {W : World} {base t : Nat} {k : IntKind} (ht : P.underlying t = some (.int k)) {v : Value} {d : DataW H} {p : List MemPlace}
  (hval : Value.okWide P W .any base t v) (h : DataW.Trod enc P W 0 (fun _ => true) true t v d p) : ∃ n, v = .int k n ∧ okI k n := by
 obtain ⟨n, rfl, _, _, hw⟩ := Go.ChangeShapes.open_int ht hval h
 simp only [Lit.wf, Bool.and_eq_true, decide_eq_true_eq] at hw
 exact ⟨n, rfl, hw⟩
end Go.Proofs.YtglnnhmmipopiaaGreat
