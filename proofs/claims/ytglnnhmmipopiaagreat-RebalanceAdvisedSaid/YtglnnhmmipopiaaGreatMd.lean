/-
 A FRAMEWORK FOR PROOFS ABOUT CALLS (part d): copy of what lies open into a row of the call's own.
 Conditions: the table of types is the program's (TOk).
-/
import Derived.Test.YtglnnhmmipopiaaGreatMc
set_option linter.all false
namespace Go.Proofs.YtglnnhmmipopiaaGreat
def cpL {α : Type} (y x : List α) : List α := y.take x.length ++ x.drop y.length
@[simp] theorem cpL_len {α : Type} (y x : List α) : (cpL y x).length = x.length := by simp only [cpL, List.length_append, List.length_take, List.length_drop]; omega
section
variable {C : Ctx} (hT : TOk C.P C.T) {o : Oper} {rest all : List Oper} {lr : List REnt} {k : List Kt} {L : Fr} {M : List OB} {V : View} {d : Nat}
include hT
theorem Exec.cpV {α : Type} [Inhabited α] {cd : Cd α} (i : Nat) {sa sb : Operand} {t t' e sz n c m k2 : Nat} {p : Addr} {a2 : Option Addr} {x y : List α} {cs : List Value} {M' : List Value → List OB}
  (hh : headOf C.nt all lr L o = some ([], d)) (hc : cpTy C.T o.op = some (sa, sb, t, t', e, sz)) (ha : ev (opd L lr) [] sa = some (.v (.slice (some p) n c))) (hb : ev (opd L lr) [] sb = some (.v (.slice a2 m k2)))
  (hi : nth M i = some (.row (.slice (some p) n c) cs e sz)) (hsz : sz = cd.sz) (hx : RowRep cd V x cs) (hn : n = x.length) (hy : SlAt cd V a2 k2 y) (hm : m = y.length)
  (hs : ∀ cs', setN M i (.row (.slice (some p) n c) cs' e sz) = some (M' cs')) (hk : wrOk i k = true)
  (h : ∀ cs', RowRep cd V (cpL y x) cs' → Exec C ⟨.ops rest all (⟨d, [], .v (.int .i64 ((min m n : Nat) : Int)), d⟩ :: lr) :: k, (d, .v (.int .i64 ((min m n : Nat) : Int))) :: L, M' cs'⟩ V) : Exec C ⟨.ops (o :: rest) all lr :: k, L, M⟩ V := by
 subst hn; subst hm; subst hsz
 obtain ⟨nw, hnw, hrd⟩ := hy.rowAll
 refine Exec.rowA i hi (fun r1 r2 r3 r4 r5 => ?_)
 obtain ⟨g, rfl⟩ := r5 p rfl
 have hnwl := hnw.len
 have hq : min y.length x.length ≤ y.length := Nat.min_le_left _ _
 have hq2 : min y.length x.length ≤ x.length := Nat.min_le_right _ _
 have hlen : (nw.take (min y.length x.length * cd.sz)).length = min y.length x.length * cd.sz := by
  rw [List.length_take, hnwl]
  exact Nat.min_eq_left (Nat.mul_le_mul_right _ hq)
 have hsrc : Src M V a2 (nw.take (min y.length x.length * cd.sz)) := by
  by_cases h0 : y = []
  ·have : nw.take (min y.length x.length * cd.sz) = [] := by
    apply List.eq_nil_of_length_eq_zero
    rw [hlen, h0]; simp
   rw [this]; exact .nil _
  ·refine .open_ ?_
   obtain ⟨b, o', e1, e2⟩ := hrd h0
   exact ⟨b, o', e1, fun j v hv => e2 j v (by
    rw [List.getElem?_take] at hv
    split at hv
    ·exact hv
    ·simp at hv)⟩
 refine Exec.cpR hT i hh hc ha rfl hb hi hsrc rfl hlen ?_ (fun u hu => hnw.ones u (List.mem_of_mem_take hu)) rfl (hs _) hk (h _ ?_)
 ·rw [hlen, r1, Nat.zero_add]; exact Nat.mul_le_mul_right _ hq2
 ·rw [hlen, Nat.zero_add, List.take_zero, List.nil_append]
  have e1 : y.take x.length = y.take (min y.length x.length) := by
   rcases Nat.le_total y.length x.length with h | h
   ·rw [Nat.min_eq_left h, List.take_of_length_le h, List.take_of_length_le (Nat.le_refl _)]
   ·rw [Nat.min_eq_right h]
  have e2 : x.drop y.length = x.drop (min y.length x.length) := by
   rcases Nat.le_total y.length x.length with h | h
   ·rw [Nat.min_eq_left h]
   ·rw [Nat.min_eq_right h, List.drop_of_length_le h, List.drop_of_length_le (Nat.le_refl _)]
  rw [cpL, e1, e2]
  exact (hnw.take _).app (hx.drop _)
end
def updF : Fr → Nat → SV → Option Fr
 | [], _, _ => none
 | (s, y) :: l, d, v => match Nat.beq s d with
  | true => some ((s, v) :: l)
  | false => match updF l d v with
   | some r => some ((s, y) :: r)
   | none => none
def updE : List REnt → Nat → SV → Option (List REnt)
 | [], _, _ => none
 | ⟨s, c, y, q⟩ :: l, d, v => match Nat.beq s d with
  | true => some (⟨s, c, v, q⟩ :: l)
  | false => match updE l d v with
   | some r => some (⟨s, c, y, q⟩ :: r)
   | none => none
theorem Exec.nameO {C : Ctx} {e x : Bool} (hx : e = x) (d : Nat) {rest all : List Oper} {lr lr' : List REnt} {k : List Kt} {L L' : Fr} {M : List OB} {V : View}
  (h1 : updF L d (.v (.bool x)) = some L') (h2 : updF L d (.v (.bool e)) = some L) (h3 : updE lr d (.v (.bool x)) = some lr') (h4 : updE lr d (.v (.bool e)) = some lr)
  (h : Exec C ⟨.ops rest all lr' :: k, L', M⟩ V) : Exec C ⟨.ops rest all lr :: k, L, M⟩ V := by
 subst hx
 rw [h2] at h1
 rw [h4] at h3
 cases h1
 cases h3
 exact h
theorem Exec.nameD {C : Ctx} {e x : Bool} (hx : e = x) (d : Nat) {all : List Oper} {listed : List Bool} {n : Nat} {ends : List Nat} {n0 : Nat} {mask : List Nat} {V1 : View} {p : List (Nat × Bool)} {lr lr' : List REnt} {k : List Kt} {L L' : Fr} {M : List OB} {V : View}
  (h1 : updF L d (.v (.bool x)) = some L') (h2 : updF L d (.v (.bool e)) = some L) (h3 : updE lr d (.v (.bool x)) = some lr') (h4 : updE lr d (.v (.bool e)) = some lr)
  (h : Exec C ⟨.draw ⟨all, listed, n, ends, n0, mask, V1, p, lr'⟩ :: k, L', M⟩ V) : Exec C ⟨.draw ⟨all, listed, n, ends, n0, mask, V1, p, lr⟩ :: k, L, M⟩ V := by
 subst hx
 rw [h2] at h1
 rw [h4] at h3
 cases h1
 cases h3
 exact h

/-! ### A drawn region whose order parts, with values behind guards -/
def SubE2 (p : List Nat) : List REnt → List REnt → Prop
 | [], _ => True
 | e :: l', l => (∃ y, selSV p e.x = some y ∧ lookR l e.s = some ⟨e.s, e.c, y, e.r⟩) ∧ SubE2 p l' l
theorem SubE2.look {p : List Nat} {l : List REnt} : ∀ {l' : List REnt}, SubE2 p l' l → ∀ s e, lookR l' s = some e → e.s = s ∧ ∃ y, selSV p e.x = some y ∧ lookR l s = some ⟨s, e.c, y, e.r⟩
 | [], _, s, e, h => by simp [lookR] at h
 | a :: l', hs, s, e, h => by
  rw [lookR_cons] at h
  split at h
  ·rename_i hn
   simp only [Option.some.injEq] at h
   subst h; subst hn
   obtain ⟨⟨y, h3, h4⟩, _⟩ := hs
   exact ⟨rfl, y, h3, h4⟩
  ·exact SubE2.look hs.2 s e h
theorem Exec.selD2 {C : Ctx} (p : List Nat) {all : List Oper} {listed : List Bool} {n : Nat} {ends : List Nat} {n0 : Nat} {mask : List Nat} {V1 : View} {q : List (Nat × Bool)} {lr lr' : List REnt} {L' : Fr} {k : List Kt} {L : Fr} {M M' : List OB} {V : View}
  (hq : planOk all ends n listed q = true) (hM : pickMem M p = some M') (hd : nodupN p = true) (hid : idN 0 n0 p = true) (hrow : rowsOnly M' = true) (hs : SubS p L' L) (he : SubE2 p lr' lr)
  (h : Exec C ⟨.draw ⟨all, listed, n, ends, n0, mask, V1, q, lr'⟩ :: k, L', M'⟩ V) : Exec C ⟨.draw ⟨all, listed, n, ends, n0, mask, V1, [], lr⟩ :: k, L, M⟩ V := by
 refine Exec.of fun FR DF env t w h1 h2 h3 h4 h5 => ?_
 have h4 : ROk env M lr t := h4
 have h5 : DOk0 DF ⟨all, listed, n, ends, n0, mask, V1, [], lr⟩ env V M := h5
 obtain ⟨hlen, hget⟩ := pickMem_sound hM
 obtain ⟨hid1, hid2⟩ := idN_sound hid
 have henv : ∀ (j i : Nat), p[j]? = some i → envAt (p.map (envAt env)) j = envAt env i := fun j i hj => by simp [envAt, hj]
 have hW : WOk C.V0 FR (p.map (envAt env)) V M' w := by
  refine ⟨h2.os, h2.tape, h2.output, h2.frame, h2.le, h2.holds, h2.fresh, by simp [hlen], ?_, ?_, ?_, ?_⟩
  ·intro j o ho
   obtain ⟨i, g1, g2⟩ := hget j o ho
   have := h2.sat i o g2
   rw [henv j i g1]
   rcases rowsOnly_get hrow ho with ⟨x, cs, e, sz, rfl⟩ | ⟨cs, ty, rfl, hv⟩
   ·exact this
   ·refine ⟨?_, allV_ok hv⟩
    rw [this.1]
    congr 3
    refine List.map_congr_left fun y hy => ?_
    cases y with
    | v _ => rfl
    | _ => exact absurd (allV_mem hv _ hy) (by simp)
  ·intro j o a ho ha
   obtain ⟨i, g1, g2⟩ := hget j o ho
   rw [henv j i g1] at ha
   exact h2.apartV i o a g2 ha
  ·intro j o a ho ha
   obtain ⟨i, g1, g2⟩ := hget j o ho
   rw [henv j i g1] at ha
   exact h2.apartF i o a g2 ha
  ·intro j j' o q a hij ho hq ha ha'
   obtain ⟨i, g1, g2⟩ := hget j o ho
   obtain ⟨i', g3, g4⟩ := hget j' q hq
   rw [henv j i g1] at ha
   rw [henv j' i' g3] at ha'
   exact h2.apart i i' o q a (fun e => hij (nodupN_inj hd g1 (e ▸ g3))) g2 g4 ha ha'
 have hal : ∀ (j i : Nat), p[j]? = some i → alive M i → alive M' j := by
  intro j i hj ⟨o, g1, g2⟩
  have hjl : j < M'.length := by rw [hlen]; exact (List.getElem?_eq_some_iff.1 hj).1
  obtain ⟨i', g3, g4⟩ := hget j M'[j] (by simp [hjl])
  rw [hj] at g3
  simp only [Option.some.injEq] at g3
  subst g3
  rw [g1] at g4
  simp only [Option.some.injEq] at g4
  exact ⟨o, by rw [g4]; simp [hjl], g2⟩
 have hpre : M'.take n0 = M.take n0 := by
  apply List.ext_getElem?
  intro j
  rw [List.getElem?_take, List.getElem?_take]
  split
  ·rename_i hj
   have hp := hid2 j hj
   rw [Nat.zero_add] at hp
   have hjl : j < M'.length := by rw [hlen]; omega
   obtain ⟨i, g1, g2⟩ := hget j M'[j] (by simp [hjl])
   rw [hp] at g1
   simp only [Option.some.injEq] at g1
   subst g1
   rw [g2]; simp [hjl]
  ·rfl
 have hn0 : n0 ≤ M.length := h5.lenM
 have hn0' : n0 ≤ M'.length := by rw [hlen]; exact hid1
 have hrd : rdM mask 0 n0 M' = rdM mask 0 n0 M := by
  have e1 : M' = M'.take n0 ++ M'.drop n0 := (List.take_append_drop _ _).symm
  have e2 : M = M.take n0 ++ M.drop n0 := (List.take_append_drop _ _).symm
  rw [e1, e2, rdM_app _ _ _ _ _ (by simp; omega), rdM_app _ _ _ _ _ (by simp; omega), hpre]
 have hD : DOk0 DF ⟨all, listed, n, ends, n0, mask, V1, q, lr'⟩ (p.map (envAt env)) V M' := by
  obtain ⟨r, hr⟩ := h5.pre
  have hl : DF.env.length = n0 := h5.len
  refine ⟨⟨(p.map (envAt env)).drop n0, ?_⟩, h5.len, hn0', h5.v, h5.vle, h5.ok, fun hn => ?_, hq⟩
  ·have : DF.env = (p.map (envAt env)).take n0 := by
    apply List.ext_getElem?
    intro j
    rw [List.getElem?_take]
    split
    ·rename_i hj
     have hp := hid2 j hj
     rw [Nat.zero_add] at hp
     rw [List.getElem?_map, hp, Option.map_some, envAt, hr, List.getElem?_append, if_pos (by omega)]
     rw [List.getElem?_eq_getElem (by omega)]
     rfl
    ·rename_i hj
     rw [List.getElem?_eq_none (by omega)]
   rw [this]
   exact (List.take_append_drop _ _).symm
  ·show DF.M = rdM mask 0 n0 M'
   rw [hrd]
   exact h5.mem hn
 refine h.to FR DF (p.map (envAt env)) t w h1 hW (fun s x hx => ?_) (fun s e hx => ?_) hD
 ·obtain ⟨y, g1, g2⟩ := hs.look s x hx
  obtain ⟨k1, k2⟩ := h3 s y g2
  obtain ⟨q1, q2⟩ := sel_val (M := M) (M' := M') henv hal g1
  exact ⟨by rw [k1, q1], q2 k2⟩
 ·have hx : lookR lr' s = some e := hx
  obtain ⟨g0, y, g3, g4⟩ := he.look s e hx
  obtain ⟨k1, kk, k5⟩ := h4 s _ g4
  obtain ⟨q1, q2⟩ := sel_val (M := M) (M' := M') henv hal g3
  refine ⟨fun hc => ?_, fun hc => kk hc, k5⟩
  obtain ⟨k2, k3⟩ := k1 hc
  simp only at k2 k3
  exact ⟨by rw [k2, q1], q2 k3⟩
end Go.Proofs.YtglnnhmmipopiaaGreat
