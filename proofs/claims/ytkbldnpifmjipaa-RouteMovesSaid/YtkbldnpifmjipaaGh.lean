/-
  A FRAMEWORK FOR PROOFS ABOUT CALLS (part h of the second row): a drawn region whose order parts and meets again; parts of rows.
  Conditions: the table of types is the program's (TOk).
-/
import Derived.Test.YtkbldnpifmjipaaGg
set_option linter.all false
namespace Go.Proofs.Ytkbldnpifmjipaa

theorem RowRep.take {α : Type} [Inhabited α] {c : Cd α} {V : View} : ∀ {l : List α} {cs : List Value} (i : Nat), RowRep c V l cs → RowRep c V (l.take i) (cs.take (i * c.sz))
  | [], cs, i, h => by rw [show cs = [] from h]; simp; exact rfl
  | x :: l, cs, 0, h => by simp; exact rfl
  | x :: l, cs, i + 1, ⟨e, r, h0, h1, h2⟩ => by
    have he := c.len h1
    refine ⟨e, r.take (i * c.sz), ?_, h1, RowRep.take i h2⟩
    rw [h0, Nat.add_mul, Nat.one_mul, Nat.add_comm, ← he]
    exact List.take_length_add_append _

theorem RowRep.drop {α : Type} [Inhabited α] {c : Cd α} {V : View} : ∀ {l : List α} {cs : List Value} (i : Nat), RowRep c V l cs → RowRep c V (l.drop i) (cs.drop (i * c.sz))
  | [], cs, i, h => by rw [show cs = [] from h]; simp; exact rfl
  | x :: l, cs, 0, h => by simpa using h
  | x :: l, cs, i + 1, ⟨e, r, h0, h1, h2⟩ => by
    have he := c.len h1
    rw [h0, Nat.add_mul, Nat.one_mul, Nat.add_comm (i * c.sz), ← he, List.drop_length_add_append, he]
    exact RowRep.drop i h2

theorem ins_cells {cs ds js : List Value} {n i sz : Nat} (hc : cs.length = n * sz) (hd : ds.length = sz) (hj : js.length = sz) (hi : i < n) :
    (((cs ++ js).take ((i + 1) * sz) ++ cs.drop (i * sz) ++ (cs ++ js).drop ((i + 1) * sz + (cs.drop (i * sz)).length)).take (i * sz) ++ ds ++ ((cs ++ js).take ((i + 1) * sz) ++ cs.drop (i * sz) ++ (cs ++ js).drop ((i + 1) * sz + (cs.drop (i * sz)).length)).drop (i * sz + ds.length)) = cs.take (i * sz) ++ ds ++ cs.drop (i * sz) := by
  have h1 : (i + 1) * sz ≤ n * sz := Nat.mul_le_mul_right _ hi
  rw [Nat.add_mul, Nat.one_mul] at h1 ⊢
  have h2 : (cs ++ js).drop (i * sz + sz + (cs.drop (i * sz)).length) = [] := by
    rw [List.drop_eq_nil_iff]; simp only [List.length_append, List.length_drop]; omega
  rw [h2, List.append_nil]
  have h3 : (cs ++ js).take (i * sz + sz) = cs.take (i * sz + sz) := List.take_append_of_le_length (by omega)
  rw [h3, hd]
  have h4 : (cs.take (i * sz + sz)).length = i * sz + sz := by simp; omega
  congr 1
  · congr 1
    rw [List.take_append_of_le_length (by omega), List.take_take, Nat.min_eq_left (by omega)]
  · exact List.drop_left' h4

theorem insZ_cells {cs ds zs : List Value} {n i sz : Nat} (hc : cs.length = n * sz) (hd : ds.length = sz) (hz : zs.length = (n + 1 - i) * sz) (hi : i < n) :
    (((cs.take (i * sz) ++ zs).take (i * sz) ++ ds ++ (cs.take (i * sz) ++ zs).drop (i * sz + ds.length)).take ((i + 1) * sz) ++ cs.drop (i * sz) ++ ((cs.take (i * sz) ++ zs).take (i * sz) ++ ds ++ (cs.take (i * sz) ++ zs).drop (i * sz + ds.length)).drop ((i + 1) * sz + (cs.drop (i * sz)).length)) = cs.take (i * sz) ++ ds ++ cs.drop (i * sz) := by
  have h1 : (i + 1) * sz ≤ n * sz := Nat.mul_le_mul_right _ hi
  have h5 : (n + 1 - i) * sz = n * sz + sz - i * sz := by rw [Nat.sub_mul, Nat.add_mul, Nat.one_mul]
  rw [Nat.add_mul, Nat.one_mul] at h1 ⊢
  rw [h5] at hz
  have h4 : (cs.take (i * sz)).length = i * sz := by simp; omega
  rw [List.take_left' h4, hd]
  have h6 : (cs.take (i * sz) ++ ds).length = i * sz + sz := by simp; omega
  rw [List.take_left' h6]
  have h7 : (cs.take (i * sz) ++ ds ++ (cs.take (i * sz) ++ zs).drop (i * sz + sz)).drop (i * sz + sz + (cs.drop (i * sz)).length) = [] := by
    rw [List.drop_eq_nil_iff]; simp only [List.length_append, List.length_drop, List.length_take]; omega
  rw [h7, List.append_nil]

/-! ### Own memory sorted anew while a drawn region is under way -/

/-- The first n are where they were. -/
def idN : Nat → Nat → List Nat → Bool
  | _, 0, _ => true
  | _, _ + 1, [] => false
  | i, n + 1, a :: l => match Nat.beq a i with
    | true => idN (i + 1) n l
    | false => false

theorem idN_sound : ∀ {n i : Nat} {l : List Nat}, idN i n l = true → n ≤ l.length ∧ ∀ j, j < n → l[j]? = some (i + j)
  | 0, i, l, _ => ⟨Nat.zero_le _, fun j h => by omega⟩
  | n + 1, i, [], h => by simp [idN] at h
  | n + 1, i, a :: l, h => by
    simp only [idN] at h
    split at h
    · rename_i ha
      obtain ⟨h1, h2⟩ := idN_sound h
      refine ⟨by simp; omega, fun j hj => ?_⟩
      cases j with
      | zero => simp [beq_nat ha]
      | succ j => simp only [List.getElem?_cons_succ, h2 j (by omega)]; congr 1; omega
    · simp at h

def SubE (p : List Nat) : List REnt → List REnt → Prop
  | [], _ => True
  | e :: l', l => (e.c = [] ∧ e.r = e.s ∧ ∃ y r, selSV p e.x = some y ∧ lookR l e.s = some ⟨e.s, [], y, r⟩) ∧ SubE p l' l

theorem SubE.look {p : List Nat} {l : List REnt} : ∀ {l' : List REnt}, SubE p l' l → ∀ s e, lookR l' s = some e → e.s = s ∧ e.c = [] ∧ e.r = s ∧ ∃ y r, selSV p e.x = some y ∧ lookR l s = some ⟨s, [], y, r⟩
  | [], _, s, e, h => by simp [lookR] at h
  | a :: l', hs, s, e, h => by
    rw [lookR_cons] at h
    split at h
    · rename_i hn
      simp only [Option.some.injEq] at h
      subst h; subst hn
      obtain ⟨⟨h1, h2, y, r, h3, h4⟩, _⟩ := hs
      exact ⟨rfl, h1, h2, y, r, h3, h4⟩
    · exact SubE.look hs.2 s e h

theorem sel_val {p : List Nat} {M M' : List OB} {env : List Nat} (henv : ∀ (j i : Nat), p[j]? = some i → envAt (p.map (envAt env)) j = envAt env i) (hal : ∀ (j i : Nat), p[j]? = some i → alive M i → alive M' j) :
    ∀ {x y : SV}, selSV p x = some y → den env y = den (p.map (envAt env)) x ∧ (y.ok M → x.ok M') := by
  intro x y g1
  cases x with
  | v _ => simp only [selSV, Option.some.injEq] at g1; subst g1; exact ⟨rfl, fun _ => trivial⟩
  | el _ _ => simp only [selSV, Option.some.injEq] at g1; subst g1; exact ⟨rfl, fun h => h⟩
  | ptr j o =>
    simp only [selSV] at g1
    split at g1
    · rename_i i hi
      simp only [Option.some.injEq] at g1; subst g1
      rw [nth_eq] at hi
      exact ⟨by simp only [den, henv j i hi], hal j i hi⟩
    · simp at g1
  | slc j o l c =>
    simp only [selSV] at g1
    split at g1
    · rename_i i hi
      simp only [Option.some.injEq] at g1; subst g1
      rw [nth_eq] at hi
      exact ⟨by simp only [den, henv j i hi], hal j i hi⟩
    · simp at g1

theorem Exec.selD {C : Ctx} (p : List Nat) {all : List Oper} {listed : List Bool} {n : Nat} {ends : List Nat} {n0 : Nat} {mask : List Nat} {V1 : View} {q : List (Nat × Bool)} {lr lr' : List REnt} {L' : Fr} {k : List Kt} {L : Fr} {M M' : List OB} {V : View}
    (hq : planOk all ends n listed q = true) (hM : pickMem M p = some M') (hd : nodupN p = true) (hid : idN 0 n0 p = true) (hrow : rowsOnly M' = true) (hs : SubS p L' L) (he : SubE p lr' lr)
    (h : Exec C ⟨.draw ⟨all, listed, n, ends, n0, mask, V1, q, lr'⟩ :: k, L', M'⟩ V) : Exec C ⟨.draw ⟨all, listed, n, ends, n0, mask, V1, [], lr⟩ :: k, L, M⟩ V := by
  refine Exec.of fun FR DF env t w h1 h2 h3 h4 h5 => ?_
  have h4 : ROk env M lr t := h4
  have h5 : DOk0 DF ⟨all, listed, n, ends, n0, mask, V1, [], lr⟩ env V M := h5
  obtain ⟨hlen, hget⟩ := pickMem_sound hM
  obtain ⟨hid1, hid2⟩ := idN_sound hid
  have henv : ∀ (j i : Nat), p[j]? = some i → envAt (p.map (envAt env)) j = envAt env i := fun j i hj => by simp [envAt, hj]
  have hW : WOk C.V0 FR (p.map (envAt env)) V M' w := by
    refine ⟨h2.os, h2.tape, h2.output, h2.frame, h2.le, h2.holds, h2.fresh, by simp [hlen], ?_, ?_, ?_, ?_⟩
    · intro j o ho
      obtain ⟨i, g1, g2⟩ := hget j o ho
      have := h2.sat i o g2
      rw [henv j i g1]
      rcases rowsOnly_get hrow ho with ⟨x, cs, e, sz, rfl⟩ | ⟨cs, ty, rfl, hv⟩
      · exact this
      · refine ⟨?_, allV_ok hv⟩
        rw [this.1]
        congr 3
        refine List.map_congr_left fun y hy => ?_
        cases y with
        | v _ => rfl
        | _ => exact absurd (allV_mem hv _ hy) (by simp)
    · intro j o a ho ha
      obtain ⟨i, g1, g2⟩ := hget j o ho
      rw [henv j i g1] at ha
      exact h2.apartV i o a g2 ha
    · intro j o a ho ha
      obtain ⟨i, g1, g2⟩ := hget j o ho
      rw [henv j i g1] at ha
      exact h2.apartF i o a g2 ha
    · intro j j' o q a hij ho hq ha ha'
      obtain ⟨i, g1, g2⟩ := hget j o ho
      obtain ⟨i', g3, g4⟩ := hget j' q hq
      rw [henv j i g1] at ha
      rw [henv j' i' g3] at ha'
      exact h2.apart i i' o q a (fun e => hij (nodupN_inj hd g1 (e ▸ g3))) g2 g4 ha ha'
  have hal : ∀ (j i : Nat), p[j]? = some i → alive M i → alive M' j := by
    intro j i hj ⟨o, g1, g2⟩
    have hjl : j < M'.length := by rw [hlen]; exact (List.getElem?_eq_some_iff.1 hj).1
    obtain ⟨i', g3, g4⟩ := hget j M'[j] (by simp [hjl])
    rw [hj] at g3
    simp only [Option.some.injEq] at g3
    subst g3
    rw [g1] at g4
    simp only [Option.some.injEq] at g4
    exact ⟨o, by rw [g4]; simp [hjl], g2⟩
  have hpre : M'.take n0 = M.take n0 := by
    apply List.ext_getElem?
    intro j
    rw [List.getElem?_take, List.getElem?_take]
    split
    · rename_i hj
      have hp := hid2 j hj
      rw [Nat.zero_add] at hp
      have hjl : j < M'.length := by rw [hlen]; omega
      obtain ⟨i, g1, g2⟩ := hget j M'[j] (by simp [hjl])
      rw [hp] at g1
      simp only [Option.some.injEq] at g1
      subst g1
      rw [g2]; simp [hjl]
    · rfl
  have hn0 : n0 ≤ M.length := h5.lenM
  have hn0' : n0 ≤ M'.length := by rw [hlen]; exact hid1
  have hrd : rdM mask 0 n0 M' = rdM mask 0 n0 M := by
    have e1 : M' = M'.take n0 ++ M'.drop n0 := (List.take_append_drop _ _).symm
    have e2 : M = M.take n0 ++ M.drop n0 := (List.take_append_drop _ _).symm
    rw [e1, e2, rdM_app _ _ _ _ _ (by simp; omega), rdM_app _ _ _ _ _ (by simp; omega), hpre]
  have hD : DOk0 DF ⟨all, listed, n, ends, n0, mask, V1, q, lr'⟩ (p.map (envAt env)) V M' := by
    obtain ⟨r, hr⟩ := h5.pre
    have hl : DF.env.length = n0 := h5.len
    refine ⟨⟨(p.map (envAt env)).drop n0, ?_⟩, h5.len, hn0', h5.v, h5.vle, h5.ok, fun hn => ?_, hq⟩
    · have : DF.env = (p.map (envAt env)).take n0 := by
        apply List.ext_getElem?
        intro j
        rw [List.getElem?_take]
        split
        · rename_i hj
          have hp := hid2 j hj
          rw [Nat.zero_add] at hp
          rw [List.getElem?_map, hp, Option.map_some, envAt, hr, List.getElem?_append, if_pos (by omega)]
          rw [List.getElem?_eq_getElem (by omega)]
          rfl
        · rename_i hj
          rw [List.getElem?_eq_none (by omega)]
      rw [this]
      exact (List.take_append_drop _ _).symm
    · show DF.M = rdM mask 0 n0 M'
      rw [hrd]
      exact h5.mem hn
  refine h.to FR DF (p.map (envAt env)) t w h1 hW (fun s x hx => ?_) (fun s e hx => ?_) hD
  · obtain ⟨y, g1, g2⟩ := hs.look s x hx
    obtain ⟨k1, k2⟩ := h3 s y g2
    obtain ⟨q1, q2⟩ := sel_val (M := M) (M' := M') henv hal g1
    exact ⟨by rw [k1, q1], q2 k2⟩
  · have hx : lookR lr' s = some e := hx
    obtain ⟨g0, g1, g2, y, r, g3, g4⟩ := he.look s e hx
    obtain ⟨k1, _, _⟩ := h4 s _ g4
    obtain ⟨k2, k3⟩ := k1 trivial
    obtain ⟨q1, q2⟩ := sel_val (M := M) (M' := M') henv hal g3
    simp only at k2 k3
    refine ⟨fun _ => ⟨by rw [k2, q1], q2 k3⟩, fun hc => absurd (by rw [g1]; trivial) hc, by rw [g2]⟩

/-- A DRAWN REGION WHOSE ORDER PARTS: two operations may come up; behind both the state is what I says. -/
theorem Exec.fork {C : Ctx} (i j : Nat) (pA pB q : List (Nat × Bool)) (I : List REnt → Fr → View → List OB → Prop) (m : Nat) {all : List Oper} {listed : List Bool} (L2 : List Bool) {ends : List Nat} {n0 : Nat} {mask : List Nat} {V1 : View} {lr : List REnt} {n n' : Nat} {oi oj : Oper} {k : List Kt} {L : Fr} {M : List OB} {V : View}
    (hn : n' = n + 1) (hr : rdy listed 0 all = [i, j]) (hi : nth all i = some oi) (hj : nth all j = some oj) (hs : sameL all listed = true)
    (h1 : planOk all ends n (setT listed i) pA = true) (h2 : planOk all ends n (setT listed j) pB = true) (hq : planOk all ends m L2 q = true)
    (hA : (∀ (p : List Nat) {lr0 lr' : List REnt} {L0 L' : Fr} {M0 M' : List OB} {V' : View}, pickMem M0 p = some M' → nodupN p = true → idN 0 n0 p = true → rowsOnly M' = true → SubS p L' L0 → SubE p lr' lr0 → I lr' L' V' M' → Exec C ⟨.draw ⟨all, L2, m, ends, n0, mask, V1, [], lr0⟩ :: k, L0, M0⟩ V') →
      Exec C ⟨.ops [oi] all lr :: .draw ⟨all, setT listed i, n, ends, n0, mask, V1, pA, lr⟩ :: k, L, M⟩ V)
    (hB : (∀ (p : List Nat) {lr0 lr' : List REnt} {L0 L' : Fr} {M0 M' : List OB} {V' : View}, pickMem M0 p = some M' → nodupN p = true → idN 0 n0 p = true → rowsOnly M' = true → SubS p L' L0 → SubE p lr' lr0 → I lr' L' V' M' → Exec C ⟨.draw ⟨all, L2, m, ends, n0, mask, V1, [], lr0⟩ :: k, L0, M0⟩ V') →
      Exec C ⟨.ops [oj] all lr :: .draw ⟨all, setT listed j, n, ends, n0, mask, V1, pB, lr⟩ :: k, L, M⟩ V)
    (h : ∀ lr' L' V' M', I lr' L' V' M' → Exec C ⟨.draw ⟨all, L2, m, ends, n0, mask, V1, q, lr'⟩ :: k, L', M'⟩ V') : Exec C ⟨.draw ⟨all, listed, n', ends, n0, mask, V1, [], lr⟩ :: k, L, M⟩ V :=
  Exec.pick2 (i := i) (j := j) pA pB hn hr hi hj hs h1 h2
    (hA fun p _ _ _ _ _ _ _ g1 g2 g3 g4 g5 g6 g7 => Exec.selD p hq g1 g2 g3 g4 g5 g6 (h _ _ _ _ g7))
    (hB fun p _ _ _ _ _ _ _ g1 g2 g3 g4 g5 g6 g7 => Exec.selD p hq g1 g2 g3 g4 g5 g6 (h _ _ _ _ g7))

/-! ### A slice literal behind guards -/

def guardLook (od : Look) (G : List (Nat × Bool)) : Look := fun x =>
  match od x with
  | some (c, v, _) => match subC c G with
    | true => some ([], v, none)
    | false => none
  | none => none

theorem guardLook_tells {env : List Nat} {M : List OB} {t : Array Value} {od : Look} (hO : Tells env M t od) {G : List (Nat × Bool)} (hG : condT t G) : Tells env M t (guardLook od G) := by
  intro x c v r h
  unfold guardLook at h
  split at h
  · rename_i c' v' r' hx
    split at h
    · rename_i hs
      simp only [Option.some.injEq, Prod.mk.injEq] at h
      obtain ⟨rfl, rfl, rfl⟩ := h
      obtain ⟨g1, g2, _⟩ := hO x c' v' r' hx
      have hc := subC_sound t G c' hs hG
      exact ⟨fun _ => g1 hc, fun _ => g2 hc, fun r0 hr => by simp at hr⟩
    · simp at h
  · simp at h

theorem bslOf_form {T : List TyD} {od : Look} {M M' : List OB} {op : Op} {x : SV} {n0 e0 : Nat} {cs0 : List SV} (h : bslOf T od M op = some (x, M', n0, cs0, e0)) : M' = M ++ [.blk cs0 e0] ∧ n0 = M.length := by
  unfold bslOf at h
  repeat' (split at h <;> try (simp at h; done))
  rename_i hsn
  simp only [Option.some.injEq, Prod.mk.injEq] at h
  obtain ⟨h1, h2, h3, h4, h5⟩ := h
  obtain ⟨g1, g2⟩ := snocN_sound hsn
  subst h2; subst h3; subst h4; subst h5
  exact ⟨g1, by omega⟩

/-- A slice literal that is laid open at once, behind guards. -/
theorem Exec.gbsV {C : Ctx} (hT : TOk C.P C.T) {o : Oper} {rest all : List Oper} {lr : List REnt} {k : List Kt} {L : Fr} {M : List OB} {V : View} {d : Nat} {G : List (Nat × Bool)} {n0 e0 len cap : Nat} {M' : List OB} {cs0 : List SV} {vs : List Value} (hh : headOf C.nt all lr L o = some (G, d)) (hc : bslOf C.T (guardLook (opd L lr) G) M o.op = some (.slc n0 0 len cap, M', n0, cs0, e0))
    (hv : vals cs0 = some vs) {M2 : List OB} (hs : setN M' n0 .unk = some M2)
    (h : ∀ V' a, VLe V V' → Imp lr G (RdAt V' (some a) 0 vs) → Exec C ⟨.ops rest all (⟨d, G, .v (.slice (some a) len cap), d⟩ :: lr) :: k, nextL G d (.v (.slice (some a) len cap)) L, M2⟩ V') (hroots : rootsOk lr G = true) : Exec C ⟨.ops (o :: rest) all lr :: k, L, M⟩ V := by
  refine Exec.of fun FR DF env t w h1 h2 h3 h4 h5 => ?_
  obtain ⟨hg, hd, hn, hf, hGL⟩ := headOf_some hh
  have hdt : d < t.size := by rw [h1]; simpa [Nat.blt_eq] using hn
  have hw := guard_sound h4 hg
  obtain ⟨f1, f2⟩ := bslOf_form hc
  obtain ⟨_, hM2⟩ := setN_sound hs
  have hM2' : M2 = M ++ [.unk] := by rw [hM2, f1, f2, List.set_append]; simp
  show wpList C.P ⟨all⟩ (post C FR DF k) (o :: rest) ⟨t, []⟩ w
  refine wpList_want ?_
  have fin : ∀ V' a w' env', VLe V V' → Imp lr G (RdAt V' (some a) 0 vs) → (∃ r, env' = env ++ r) → WOk C.V0 FR env' V' M2 w' → LOk env' M2 L t → ROk env' M2 lr t → ∀ u, ((condT t G → u = .slice (some a) len cap) ∧ (¬ condT t G → u = undef)) →
      post C FR DF (.ops rest all (⟨d, G, .v (.slice (some a) len cap), d⟩ :: lr) :: k) .normal ⟨t.setIfInBounds d u, []⟩ w' := by
    intro V' a w' env' hvv hR he hW' hL' hR' u hu
    refine (h V' a hvv hR).to FR DF env' _ w' (by simpa using h1) hW' ?_ (hR'.put hdt hf hu.1 hu.2 (guard_fresh hg hf) (.inl rfl) (fun _ => trivial)) (DOk.grow he hvv ⟨_, hM2'⟩ h5.same)
    rcases hGL with rfl | ⟨hne, hnone⟩
    · rw [hu.1 trivial]
      exact hL'.put (x := .v (.slice (some a) len cap)) hdt trivial
    · cases G with
      | nil => exact absurd rfl hne
      | cons g G => exact hL'.put_new hnone u
  by_cases hcn : condT t G
  · rw [if_pos (hw.2 hcn)]
    obtain ⟨env', w', p1, p2, p3, p4, p5, p6, p7⟩ := bslOf_sound hT h2 (guardLook_tells (opd_sound h3 h4) hcn) hc
    have hget : M'[n0]? = some (.blk cs0 e0) := by rw [f1, f2]; simp
    obtain ⟨V', v1, v2, hW'⟩ := p3.openBlk hget hv
    rw [← hM2] at hW'
    have hal : ∀ q, alive M' q → alive M2 q := fun q hq => by rw [hM2]; exact alive_set (by simp) hq
    refine wp_value p7 ?_
    simp only [Act.put, hd]
    exact fin V' ⟨envAt env' n0, 0, none⟩ w' env' v1 (Imp.of_true v2) p1 hW' ((p4 _ h3).alive hal) ((p5 _ h4).alive hal) _ ⟨fun _ => rfl, fun hn => absurd hcn hn⟩
  · rw [if_neg (fun hh => hcn (hw.1 hh))]
    have hW' : WOk C.V0 FR (env ++ [0]) V M2 w := by
      rw [hM2']
      exact h2.add 0 rfl rfl rfl (fun _ _ => rfl) ⟨0, World.ownsRow_nil _ _ _ _⟩ (fun a ha => by simp [OB.own, Value.ownBlock] at ha)
    simp only [Act.put, hd]
    exact fin V ⟨0, 0, none⟩ w (env ++ [0]) (VLe.refl V) (Imp.of_false h4 hroots hcn) ⟨_, rfl⟩ hW' (by rw [hM2']; exact h3.mono h2.len _ _) (by rw [hM2']; exact h4.mono h2.len _ _) undef ⟨fun hc => absurd hc hcn, fun _ => rfl⟩

end Go.Proofs.Ytkbldnpifmjipaa
