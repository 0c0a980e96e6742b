/-
  FUNCTIONS AS THEIR LEAN COUNTERPARTS (part b): more rules that the printed walks use: arrays, slices of slices, appends of slices.
  Conditions: the table of types is the program's (TOk).
-/
import Derived.Test.YtkbldnpifmjipaaGa
set_option linter.all false
namespace Go.Proofs.Ytkbldnpifmjipaa

theorem flat_one (n : Nat) (x : Value) : (List.replicate n [x]).flatten = List.replicate n x := by
  induction n with
  | zero => rfl
  | succ n ih => rw [List.replicate_succ, List.flatten_cons, ih, List.replicate_succ]; rfl

/-- Bounds at an array. -/
theorem ixA {α : Type} {l : List α} {cs : List Value} {n sz : Nat} {i : Int} (hq : 0 ≤ i ∧ i < (l.length : Int)) (h1 : cs.length = l.length * sz) (h2 : cs.length = n * sz) (hs : 0 < sz) : 0 ≤ i ∧ i < (n : Int) := by
  have : l.length = n := Nat.eq_of_mul_eq_mul_right hs (h1.symm.trans h2)
  rw [← this]
  exact hq

theorem stB {α : Type} {l : List α} {cs : List Value} {sz : Nat} {i : Int} (hq : 0 ≤ i ∧ i < (l.length : Int)) (h1 : cs.length = l.length * sz) : i.toNat * sz + sz ≤ cs.length := by
  rw [h1]
  have h : i.toNat + 1 ≤ l.length := by omega
  calc i.toNat * sz + sz = (i.toNat + 1) * sz := by rw [Nat.add_mul, Nat.one_mul]
    _ ≤ l.length * sz := Nat.mul_le_mul_right _ h

theorem gslat1 {α : Type} [Inhabited α] {c : Cd α} {V : View} {a : Option Addr} {k : Nat} {x : Bool} {b : Bool} {F : Option (List α)} {r : List α} (hx : gcall (x == b) F = some r) (h : x = b → SlAt c V a k r) : SlAt c V a k r := by
  by_cases hb : x = b
  · exact h hb
  · have : (x == b) = false := by simpa using hb
    rw [this] at hx
    simp only [gcall, cond_false, Option.some.injEq] at hx
    rw [← hx]
    exact SlAt.nil

theorem gslat2 {α : Type} [Inhabited α] {c : Cd α} {V : View} {a : Option Addr} {k : Nat} {x b y d : Bool} {F : Option (List α)} {r : List α} (hx : gcall ((x == b) && (y == d)) F = some r) (h : x = b → y = d → SlAt c V a k r) : SlAt c V a k r := by
  by_cases h1 : x = b
  · by_cases h2 : y = d
    · exact h h1 h2
    · have : ((x == b) && (y == d)) = false := by simp [h2]
      rw [this] at hx
      obtain rfl := some_inj hx
      exact SlAt.nil
  · have : ((x == b) && (y == d)) = false := by simp [h1]
    rw [this] at hx
    obtain rfl := some_inj hx
    exact SlAt.nil

theorem gslat3 {α : Type} [Inhabited α] {c : Cd α} {V : View} {a : Option Addr} {k : Nat} {x b y d z e : Bool} {F : Option (List α)} {r : List α} (hx : gcall ((x == b) && ((y == d) && (z == e))) F = some r) (h : x = b → y = d → z = e → SlAt c V a k r) : SlAt c V a k r := by
  by_cases h1 : x = b
  · by_cases h2 : y = d
    · by_cases h3 : z = e
      · exact h h1 h2 h3
      · have : ((x == b) && ((y == d) && (z == e))) = false := by simp [h3]
        rw [this] at hx
        obtain rfl := some_inj hx
        exact SlAt.nil
    · have : ((x == b) && ((y == d) && (z == e))) = false := by simp [h2]
      rw [this] at hx
      obtain rfl := some_inj hx
      exact SlAt.nil
  · have : ((x == b) && ((y == d) && (z == e))) = false := by simp [h1]
    rw [this] at hx
    obtain rfl := some_inj hx
    exact SlAt.nil

def substP (i b : Nat) : Fr → Fr
  | [] => []
  | (s, .ptr j o) :: L => match Nat.beq j i with
    | true => (s, .v (.pointer (some ⟨b, o, none⟩))) :: substP i b L
    | false => (s, .ptr j o) :: substP i b L
  | (s, x) :: L => (s, x) :: substP i b L

theorem substP_look {i b : Nat} {env : List Nat} (hb : envAt env i = b) : ∀ {L : Fr} {s : Nat} {x : SV}, lookL (substP i b L) s = some x → ∃ y, lookL L s = some y ∧ den env y = den env x ∧ (∀ M : List OB, y.ok M → x.ok M)
  | [], s, x, h => by simp [substP, lookL] at h
  | (d, y) :: L, s, x, h => by
    have key : ∀ z, den env y = den env z → (∀ M : List OB, y.ok M → z.ok M) → lookL ((d, z) :: substP i b L) s = some x → ∃ y', lookL ((d, y) :: L) s = some y' ∧ den env y' = den env x ∧ (∀ M : List OB, y'.ok M → x.ok M) := by
      intro z h1 h2 h3
      rw [lookL_cons] at h3 ⊢
      split at h3
      · rename_i hd
        simp only [Option.some.injEq] at h3
        subst h3
        rw [if_pos hd]
        exact ⟨y, rfl, h1, h2⟩
      · rename_i hd
        rw [if_neg hd]
        exact substP_look hb h3
    cases y with
    | ptr j o =>
      simp only [substP] at h
      split at h
      · rename_i hj
        have := beq_nat hj
        subst this
        exact key (.v (.pointer (some ⟨b, o, none⟩))) (by simp [den, hb]) (fun _ _ => trivial) h
      · exact key _ rfl (fun _ h => h) h
    | v z => exact key _ rfl (fun _ h => h) h
    | slc _ _ _ _ => exact key _ rfl (fun _ h => h) h
    | el _ _ => exact key _ rfl (fun _ h => h) h

section
variable {C : Ctx} (hT : TOk C.P C.T)

/-- A local array becomes a row. -/
theorem Exec.fixA (i : Nat) {n sz ty : Nat} {cs : List Value} {k : List Kt} {L : Fr} {M : List OB} {V : View} {M' : Nat → List OB} {L' : Nat → Fr} {sv : List SV}
    (hk : noOps k = true) (hi : nth M i = some (.blk sv ty)) (hv : vals sv = some cs) (hl : Nat.beq cs.length (n * sz) = true) (hn : Nat.ble n 1000000 = true) (hs : ∀ b, setN M i (.row (.slice (some ⟨b, 0, none⟩) n n) cs ty sz) = some (M' b)) (hL : ∀ b, substP i b L = L' b)
    (h : ∀ b, Exec C ⟨k, L' b, M' b⟩ V) : Exec C ⟨k, L, M⟩ V := by
  refine Exec.of fun FR DF env t w h1 h2 h3 h4 h5 => ?_
  rw [nth_eq] at hi
  have hsat := (h2.sat i _ hi).1
  rw [vals_sound (env := env) hv] at hsat
  have hl := beq_nat hl
  have hn : n ≤ maxLen := Nat.le_trans (Nat.le_of_ble_eq_true hn) (by simp [maxLen])
  have hrow : rowSat w ty sz (.slice (some ⟨envAt env i, 0, none⟩) n n) cs := ⟨n, hl, .inr ⟨_, n, _, rfl, Nat.zero_le _, hsat, Nat.le_refl _, hn, by simp [hl], by simp [← hl]⟩⟩
  have hW := h2.upd (w' := w) (o' := .row (.slice (some ⟨envAt env i, 0, none⟩) n n) cs ty sz) hi (by simp) rfl rfl rfl (fun _ _ _ => rfl) hrow (fun a ha => .inl (by
    simp only [OB.own, Value.ownBlock, Option.some.injEq] at ha ⊢
    exact ha.symm))
  obtain ⟨_, hM'⟩ := setN_sound (hs (envAt env i))
  refine (h (envAt env i)).to0 hk (env := env) h1 (by rw [hM']; exact hW) (fun s x hx => ?_) DF
  rw [← hL] at hx
  obtain ⟨y, k1, k2, k3⟩ := substP_look (b := envAt env i) rfl hx
  obtain ⟨k4, k5⟩ := h3 s y k1
  exact ⟨by rw [k4, k2], SV.ok_mono (fun j hj => by rw [hM']; exact alive_set (by simp) hj) (k3 M k5)⟩

def iaAOf (T : List TyD) (od : Look) (G : List (Nat × Bool)) (op : Op) : Option (Nat × Nat × Int × Nat × Nat) :=
  match op with
  | .indexAddr t x i => match nth T t with
    | some d => match d.size, d.und with
      | _ + 1, .arr len e => match nth T e with
        | some ed => match ed.size with
          | 0 => none
          | sz + 1 => match ev od G x, ev od G i with
            | some (.v (.pointer (some ⟨b, o, none⟩))), some (.v (.int _ n)) => some (b, len, n, sz + 1, o)
            | _, _ => none
        | none => none
      | _, _ => none
    | none => none
  | _ => none

include hT in
theorem iaA_run {env : List Nat} {M : List OB} {t : Array Value} {od : Look} (hO : Tells env M t od) {G : List (Nat × Bool)} (hG : condT t G) {o : Oper} {b len sz o' : Nat} {n : Int}
    (hc : iaAOf C.T od G o.op = some (b, len, n, sz, o')) (hb : 0 ≤ n ∧ n < len) (w : World) :
    (execOp (⟨t, []⟩ : Act).eval o).run C.P w = .ok (.value (den env (.el (some ⟨b, o', none⟩) (n.toNat * sz)))) w := by
  unfold iaAOf at hc
  split at hc <;> try (simp at hc; done)
  rename_i ty x i hop
  split at hc <;> try (simp at hc; done)
  rename_i dd hd
  split at hc <;> try (simp at hc; done)
  rename_i m len' e hsz hu
  split at hc <;> try (simp at hc; done)
  rename_i ed hed
  split at hc <;> try (simp at hc; done)
  rename_i sz' hesz
  split at hc <;> try (simp at hc; done)
  rename_i b' o'' k' n' hx hi
  simp only [Option.some.injEq, Prod.mk.injEq] at hc
  obtain ⟨rfl, rfl, rfl, rfl, rfl⟩ := hc
  unfold execOp
  simp only [hop, ev_sound hO hG hx, ev_sound hO hG hi, den, Instr.indexAt, asIntOf, Sem.run_bind, Sem.run_pure, Result.andThen_ok, run_underlying (t_arr hT hd (by omega) hu), Instr.sureAddr]
  rw [if_pos hb]
  simp only [Sem.run_bind, t_size hT w hed (by omega), Result.andThen_ok, Sem.run_pure, hesz]
  simp [Addr.add_lit]

include hT in
/-- &a[n] of a local array that is a row. -/
theorem Exec.iaA {o : Oper} {rest all : List Oper} {lr : List REnt} {k : List Kt} {L : Fr} {M : List OB} {V : View} {G : List (Nat × Bool)} {d b len sz o' : Nat} {n : Int}
    (hh : headOf C.nt all lr L o = some (G, d)) (hc : iaAOf C.T (opd L lr) G o.op = some (b, len, n, sz, o')) (hb : Imp lr G (0 ≤ n ∧ n < len))
    (h : Exec C ⟨.ops rest all (⟨d, G, .el (some ⟨b, o', none⟩) (n.toNat * sz), d⟩ :: lr) :: k, nextL G d (.el (some ⟨b, o', none⟩) (n.toNat * sz)) L, M⟩ V) : Exec C ⟨.ops (o :: rest) all lr :: k, L, M⟩ V :=
  Exec.yieldsP (x := .el (some ⟨b, o', none⟩) (n.toNat * sz)) hh (fun _ _ w h3 h4 _ hG => ⟨⟨_, _, rfl⟩, iaA_run hT (opd_sound h3 h4) hG hc (hb.out h4 hG) w⟩) h

include hT in
theorem Exec.fiaA {o : Oper} {all : List Oper} {listed : List Bool} {ends : List Nat} {n0 : Nat} {mask : List Nat} {V1 : View} {m m' i : Nat} {lr : List REnt} {k : List Kt} {L : Fr} {M : List OB} {V : View} {G : List (Nat × Bool)} {d b len sz o' : Nat} {n : Int} {p : List (Nat × Bool)}
    (hh : headX C.nt all lr i L = some (o, G, d)) (hm : m' = m + 1) (hc : iaAOf C.T (opd L lr) G o.op = some (b, len, n, sz, o')) (hb : Imp lr G (0 ≤ n ∧ n < len))
    (h : Exec C ⟨.draw ⟨all, setT listed i, m, ends, n0, mask, V1, p, ⟨d, G, .el (some ⟨b, o', none⟩) (n.toNat * sz), d⟩ :: lr⟩ :: k, nextL G d (.el (some ⟨b, o', none⟩) (n.toNat * sz)) L, M⟩ V) : Exec C ⟨.draw ⟨all, listed, m', ends, n0, mask, V1, (i, true) :: p, lr⟩ :: k, L, M⟩ V :=
  Exec.fyields (x := .el (some ⟨b, o', none⟩) (n.toNat * sz)) hh hm (fun _ _ w h3 h4 _ _ hG => ⟨⟨_, _, rfl⟩, iaA_run hT (opd_sound h3 h4) hG hc (hb.out h4 hG) w⟩) h

/-! ### Slices of slices -/

def slvOf (T : List TyD) (od : Look) (G : List (Nat × Bool)) (op : Op) : Option (Option Addr × Nat × Nat × Option Int × Option Int × Nat) :=
  match op with
  | .slice t x lo hi none => match sliceTy T t with
    | some (_, sz, _, _) => match ev od G x, bdOf od G lo, bdOf od G hi with
      | some (.v (.slice a n c)), some p, some q => some (a, n, c, p, q, sz)
      | _, _, _ => none
    | none => none
  | _ => none

include hT in
theorem slv_run {env : List Nat} {M : List OB} {t : Array Value} {od : Look} (hO : Tells env M t od) {G : List (Nat × Bool)} (hG : condT t G) {o : Oper} {a : Option Addr} {n c sz : Nat} {p q : Option Int}
    (hc : slvOf C.T od G o.op = some (a, n, c, p, q, sz)) (hb : 0 ≤ loN p ∧ loN p ≤ hiN n q ∧ hiN n q ≤ c) (w : World) :
    (execOp (⟨t, []⟩ : Act).eval o).run C.P w = .ok (.value (.slice (if c = (loN p).toNat then a else a.map (·.add ((loN p).toNat * sz))) ((hiN n q).toNat - (loN p).toNat) (c - (loN p).toNat))) w := by
  obtain ⟨b1, b2, b3⟩ := hb
  unfold slvOf at hc
  split at hc <;> try (simp at hc; done)
  rename_i ty x lo hi hop
  split at hc <;> try (simp at hc; done)
  rename_i e sz' bys zs hts
  split at hc <;> try (simp at hc; done)
  rename_i a' n' c' p' q' hx hlo hhi
  simp only [Option.some.injEq, Prod.mk.injEq] at hc
  obtain ⟨rfl, rfl, rfl, rfl, rfl, rfl⟩ := hc
  obtain ⟨u1, u2, u3, u4, ti, z, i1, i2, i3, i4, i5, i6⟩ := sliceTy_sound hT hts
  obtain ⟨v1, g1, g2⟩ := bdOf_sound hO hG hlo
  obtain ⟨v2, g3, g4⟩ := bdOf_sound hO hG hhi
  have hsz : (sizeOf e).run C.P w = .ok sz' w := by simp [sizeOf, typeInfo, i1, i3]
  have hel : C.P.elem ty = e := by simp [Program.elem, u1]
  have ht : C.P.underlying ty = some (.slice (C.P.elem ty)) := by rw [hel]; exact u1
  rw [← hel] at hsz
  unfold execOp
  simp only [hop, ev_sound hO hG hx, den, g1, g3, Option.map_none, Sem.run_bind]
  rw [run_sliceAt_slice (h := ht)]
  rcases g2 with ⟨rfl, rfl⟩ | ⟨i, k, rfl, rfl⟩ <;> rcases g4 with ⟨rfl, rfl⟩ | ⟨i', k', rfl, rfl⟩ <;> simp only [loN, hiN] at b1 b2 b3 ⊢
  · rw [run_slice_all (ht := ht)]
    simp [hsz, sliced]
  · rw [run_slice_h (ht := ht) (h0 := by omega) (h2 := b3)]
    simp [hsz, sliced]
  · rw [run_slice_l (ht := ht) (h0 := b1) (h1 := b2)]
    by_cases hq : c' = i.toNat <;> simp [hsz, sliced, hq]
  · rw [run_slice_lh (ht := ht) (h0 := b1) (h1 := b2) (h2 := b3)]
    by_cases hq : c' = i.toNat <;> simp [hsz, sliced, hq]

theorem SlAt.part {α : Type} [Inhabited α] {c : Cd α} {V : View} {a : Option Addr} {cap : Nat} {l : List α} (h : SlAt c V a cap l) (lo hi : Nat) (h1 : lo ≤ hi) (h2 : hi ≤ l.length) :
    SlAt c V (if cap = lo then a else a.map (·.add (lo * c.sz))) (cap - lo) ((l.take hi).drop lo) := by
  have h3 := h.1
  refine ⟨by simp only [List.length_drop, List.length_take]; omega, ?_⟩
  intro i x hx
  have hlt := (List.getElem?_eq_some_iff.1 hx).1
  simp only [List.length_drop, List.length_take] at hlt
  simp only [List.getElem?_drop, List.getElem?_take] at hx
  rw [if_pos (by omega)] at hx
  obtain ⟨cs, k1, b, o, rfl, k2⟩ := h.2 _ _ hx
  refine ⟨cs, k1, b, o + lo * c.sz, ?_, fun j v hj => ?_⟩
  · rw [if_neg (by omega)]
    simp [Addr.add_lit]
  · have := k2 j v hj
    rw [show o + lo * c.sz + i * c.sz + j = o + (lo + i) * c.sz + j by rw [Nat.add_mul]; omega]
    exact this

include hT in
/-- l[lo:hi] of a slice that lies open. -/
theorem Exec.slv {α : Type} [Inhabited α] {c : Cd α} {l : List α} {o : Oper} {rest all : List Oper} {lr : List REnt} {k : List Kt} {L : Fr} {M : List OB} {V : View} {d : Nat} {a : Option Addr} {n cp sz : Nat} {p q : Option Int} {lo hi : Int}
    (hh : headOf C.nt all lr L o = some ([], d)) (hc : slvOf C.T (opd L lr) [] o.op = some (a, n, cp, p, q, sz)) (hlo : loN p = lo) (hhi : hiN n q = hi) (hs : SlAt c V a cp l) (hn : n = l.length) (hsz : sz = c.sz)
    (hb : 0 ≤ lo ∧ lo ≤ hi ∧ hi ≤ (l.length : Int))
    (h : ∀ a' k', SlAt c V a' k' ((l.take hi.toNat).drop lo.toNat) → Exec C ⟨.ops rest all (⟨d, [], .v (.slice a' ((l.take hi.toNat).drop lo.toNat).length k'), d⟩ :: lr) :: k, (d, .v (.slice a' ((l.take hi.toNat).drop lo.toNat).length k')) :: L, M⟩ V) : Exec C ⟨.ops (o :: rest) all lr :: k, L, M⟩ V := by
  subst hlo; subst hhi; subst hsz; subst hn
  have hcap := hs.1
  have hlen : ((l.take (hiN l.length q).toNat).drop (loN p).toNat).length = (hiN l.length q).toNat - (loN p).toNat := by
    simp only [List.length_drop, List.length_take]
    omega
  have hx := h (if cp = (loN p).toNat then a else a.map (·.add ((loN p).toNat * c.sz))) (cp - (loN p).toNat) (hs.part _ _ (by omega) (by omega))
  rw [hlen] at hx
  exact Exec.yieldsP (G := []) (x := .v (.slice (if cp = (loN p).toNat then a else a.map (·.add ((loN p).toNat * c.sz))) ((hiN l.length q).toNat - (loN p).toNat) (cp - (loN p).toNat))) hh (fun _ _ w h3 h4 _ hG => ⟨trivial, slv_run hT (opd_sound h3 h4) hG hc ⟨hb.1, hb.2.1, by omega⟩ w⟩) hx

include hT in
/-- l[lo:hi] of a slice that lies open, behind guards. -/
theorem Exec.gslv {α : Type} [Inhabited α] {c : Cd α} {l : List α} {o : Oper} {rest all : List Oper} {lr : List REnt} {k : List Kt} {L : Fr} {M : List OB} {V : View} {d : Nat} {G : List (Nat × Bool)} {a : Option Addr} {n cp sz : Nat} {p q : Option Int} {lo hi : Int} {g : Bool}
    (hh : headOf C.nt all lr L o = some (G, d)) (hc : slvOf C.T (opd L lr) G o.op = some (a, n, cp, p, q, sz)) (hlo : loN p = lo) (hhi : hiN n q = hi) (hs : SlAt c V a cp l) (hn : n = l.length) (hsz : sz = c.sz)
    (hg : Imp lr G (g = true)) (hb : g = true → 0 ≤ lo ∧ lo ≤ hi ∧ hi ≤ (l.length : Int))
    (h : ∀ a' k', SlAt c V a' k' (_root_.cond g ((l.take hi.toNat).drop lo.toNat) []) → Exec C ⟨.ops rest all (⟨d, G, .v (.slice a' (_root_.cond g ((l.take hi.toNat).drop lo.toNat) []).length k'), d⟩ :: lr) :: k, nextL G d (.v (.slice a' (_root_.cond g ((l.take hi.toNat).drop lo.toNat) []).length k')) L, M⟩ V) : Exec C ⟨.ops (o :: rest) all lr :: k, L, M⟩ V := by
  subst hlo; subst hhi; subst hsz; subst hn
  cases g with
  | false =>
    exact Exec.yieldsP (x := .v (.slice none 0 0)) hh (fun _ _ w h3 h4 _ hG => absurd (hg.out h4 hG) (by simp)) (h none 0 ⟨by simp, fun i x hx => by simp at hx⟩)
  | true =>
    have hb' := hb rfl
    have hcap := hs.1
    have hlen : ((l.take (hiN l.length q).toNat).drop (loN p).toNat).length = (hiN l.length q).toNat - (loN p).toNat := by
      simp only [List.length_drop, List.length_take]
      omega
    have hx := h (if cp = (loN p).toNat then a else a.map (·.add ((loN p).toNat * c.sz))) (cp - (loN p).toNat) (hs.part _ _ (by omega) (by omega))
    simp only [_root_.cond_true] at hx
    rw [hlen] at hx
    exact Exec.yieldsP (G := G) (x := .v (.slice (if cp = (loN p).toNat then a else a.map (·.add ((loN p).toNat * c.sz))) ((hiN l.length q).toNat - (loN p).toNat) (cp - (loN p).toNat))) hh (fun _ _ w h3 h4 _ hG => ⟨trivial, slv_run hT (opd_sound h3 h4) hG hc ⟨hb'.1, hb'.2.1, by omega⟩ w⟩) hx

include hT in
/-- The same, taken first in a drawn region. -/
theorem Exec.fgslv {α : Type} [Inhabited α] {c : Cd α} {l : List α} {o : Oper} {all : List Oper} {lr : List REnt} {k : List Kt} {L : Fr} {M : List OB} {V V1 : View} {listed : List Bool} {i m m' d : Nat} {ends n0 mask} {pp : List (Nat × Bool)} {G : List (Nat × Bool)} {a : Option Addr} {n cp sz : Nat} {p q : Option Int} {lo hi : Int} {g : Bool}
    (hh : headX C.nt all lr i L = some (o, G, d)) (hm : m' = m + 1) (hc : slvOf C.T (opd L lr) G o.op = some (a, n, cp, p, q, sz)) (hlo : loN p = lo) (hhi : hiN n q = hi) (hs : SlAt c V a cp l) (hn : n = l.length) (hsz : sz = c.sz)
    (hg : Imp lr G (g = true)) (hb : g = true → 0 ≤ lo ∧ lo ≤ hi ∧ hi ≤ (l.length : Int))
    (h : ∀ a' k', SlAt c V a' k' (_root_.cond g ((l.take hi.toNat).drop lo.toNat) []) → Exec C ⟨.draw ⟨all, setT listed i, m, ends, n0, mask, V1, pp, ⟨d, G, .v (.slice a' (_root_.cond g ((l.take hi.toNat).drop lo.toNat) []).length k'), d⟩ :: lr⟩ :: k, nextL G d (.v (.slice a' (_root_.cond g ((l.take hi.toNat).drop lo.toNat) []).length k')) L, M⟩ V) :
    Exec C ⟨.draw ⟨all, listed, m', ends, n0, mask, V1, (i, true) :: pp, lr⟩ :: k, L, M⟩ V := by
  subst hlo; subst hhi; subst hsz; subst hn
  cases g with
  | false =>
    exact Exec.fyields (x := .v (.slice none 0 0)) hh hm (fun _ _ w h3 h4 _ _ hG => absurd (hg.out h4 hG) (by simp)) (h none 0 ⟨by simp, fun i x hx => by simp at hx⟩)
  | true =>
    have hb' := hb rfl
    have hcap := hs.1
    have hlen : ((l.take (hiN l.length q).toNat).drop (loN p).toNat).length = (hiN l.length q).toNat - (loN p).toNat := by
      simp only [List.length_drop, List.length_take]
      omega
    have hx := h (if cp = (loN p).toNat then a else a.map (·.add ((loN p).toNat * c.sz))) (cp - (loN p).toNat) (hs.part _ _ (by omega) (by omega))
    simp only [_root_.cond_true] at hx
    rw [hlen] at hx
    exact Exec.fyields (G := G) (x := .v (.slice (if cp = (loN p).toNat then a else a.map (·.add ((loN p).toNat * c.sz))) ((hiN l.length q).toNat - (loN p).toNat) (cp - (loN p).toNat))) hh hm (fun _ _ w h3 h4 _ _ hG => ⟨trivial, slv_run hT (opd_sound h3 h4) hG hc ⟨hb'.1, hb'.2.1, by omega⟩ w⟩) hx

/-! ### append(s, l...): l lies open -/

theorem RdAt.cat {V : View} {a : Option Addr} {off : Nat} {cs ds : List Value} (h : RdAt V a off cs) (h' : RdAt V a (off + cs.length) ds) : RdAt V a off (cs ++ ds) := by
  obtain ⟨b, o, rfl, h1⟩ := h
  obtain ⟨b', o', e, h2⟩ := h'
  simp only [Option.some.injEq, Addr.mk.injEq, and_true] at e
  obtain ⟨rfl, rfl⟩ := e
  refine ⟨b, o, rfl, fun j u hj => ?_⟩
  rw [List.getElem?_append] at hj
  split at hj
  · exact h1 j u hj
  · have := h2 _ u hj
    rw [show o + off + j = o + (off + cs.length) + (j - cs.length) by omega]
    exact this

theorem SlAt.rowFrom {α : Type} [Inhabited α] {c : Cd α} {V : View} {a : Option Addr} : ∀ (l : List α) (off : Nat), (∀ i x, l[i]? = some x → ∃ cs, c.rep V x cs ∧ RdAt V a ((off + i) * c.sz) cs) →
    ∃ news, RowRep c V l news ∧ (l ≠ [] → RdAt V a (off * c.sz) news)
  | [], _, _ => ⟨[], rfl, fun h => absurd rfl h⟩
  | x :: l, off, h => by
    obtain ⟨cs, r1, r2⟩ := h 0 x rfl
    obtain ⟨news, r3, r4⟩ := SlAt.rowFrom l (off + 1) (fun i y hy => by
      obtain ⟨ds, q1, q2⟩ := h (i + 1) y hy
      exact ⟨ds, q1, by rw [show off + 1 + i = off + (i + 1) by omega]; exact q2⟩)
    refine ⟨cs ++ news, ⟨cs, news, rfl, r1, r3⟩, fun _ => ?_⟩
    rw [Nat.add_zero] at r2
    cases l with
    | nil => rw [show news = [] from r3, List.append_nil]; exact r2
    | cons y l =>
      refine RdAt.cat r2 ?_
      rw [c.len r1, show off * c.sz + c.sz = (off + 1) * c.sz by rw [Nat.add_mul, Nat.one_mul]]
      exact r4 (by simp)

theorem SlAt.rowAll {α : Type} [Inhabited α] {c : Cd α} {V : View} {a : Option Addr} {k : Nat} {l : List α} (h : SlAt c V a k l) : ∃ news, RowRep c V l news ∧ (l ≠ [] → RdAt V a 0 news) := by
  have := SlAt.rowFrom (c := c) (V := V) (a := a) l 0 (fun i x hx => by rw [Nat.zero_add]; exact h.2 i x hx)
  rwa [Nat.zero_mul] at this

theorem RowRep.ones {α : Type} [Inhabited α] {c : Cd α} {V : View} : ∀ {l : List α} {cs : List Value}, RowRep c V l cs → ∀ u ∈ cs, u.oneCell' = true
  | [], cs, h, u, hu => by rw [show cs = [] from h] at hu; cases hu
  | x :: l, cs, ⟨e, r, h0, h1, h2⟩, u, hu => by
    subst h0
    rcases List.mem_append.1 hu with h | h
    · exact c.one h1 u h
    · exact RowRep.ones h2 u h

include hT in
/-- append(s, l...): s is a row of the call's own; l lies open. -/
theorem Exec.appS {α : Type} [Inhabited α] {cd : Cd α} (i : Nat) {o : Oper} {rest all : List Oper} {lr : List REnt} {k : List Kt} {L : Fr} {M : List OB} {V : View} {d : Nat} {sa sb : Operand} {t e sz bys n c m c2 k2 nm : Nat} {a a2 : Option Addr} {cs : List Value} {l : List α} {M' : List Value → Option Addr → Nat → List OB}
    (hh : headOf C.nt all lr L o = some ([], d)) (hc : appTy C.T o.op = some (sa, sb, t, e, sz, bys)) (ha : ev (opd L lr) [] sa = some (.v (.slice a n c))) (hb : ev (opd L lr) [] sb = some (.v (.slice a2 m c2)))
    (hi : nth M i = some (.row (.slice a n c) cs e sz)) (hsz : sz = cd.sz) (hsl : SlAt cd V a2 k2 l) (hm : m = l.length) (hnm : n + m = nm) (hs : ∀ news a' c', setN M i (.row (.slice a' nm c') (cs ++ news) e sz) = some (M' news a' c')) (hk : wrOk i k = true)
    (hbnd : nm * bys ≤ 140737488355328)
    (h : ∀ news, RowRep cd V l news → ∀ a' c', Exec C ⟨.ops rest all (⟨d, [], .v (.slice a' nm c'), d⟩ :: lr) :: k, (d, .v (.slice a' nm c')) :: L, M' news a' c'⟩ V) : Exec C ⟨.ops (o :: rest) all lr :: k, L, M⟩ V := by
  subst hnm
  obtain ⟨news, hnews, hrd⟩ := hsl.rowAll
  have hl : news.length = m * sz := by rw [hnews.len, hm, hsz]
  replace h := h news hnews
  replace hs := hs news
  refine Exec.of fun FR DF env t' w g1 h2 h3 h4 h5 => ?_
  rw [nth_eq] at hi
  have hb' := ev_sound (opd_sound h3 h4) (G := []) trivial hb
  have core : ∃ a' c' w', (execOp (⟨t', []⟩ : Act).eval o).run C.P w = .ok (.value (.slice a' (n + m) c')) w' ∧ WOk C.V0 FR env V (M.set i (.row (.slice a' (n + m) c') (cs ++ news) e sz)) w' := by
    by_cases hl0 : l = []
    · subst hl0
      obtain rfl : news = [] := hnews
      obtain rfl : m = 0 := hm
      obtain ⟨hop, zs, hts⟩ := appTy_op hc
      obtain ⟨u1, u2, u3, _, ti, z, i1, i2, i3, i4, i5, _⟩ := sliceTy_sound hT hts
      have hnc : n ≤ c := by
        obtain ⟨r1, r2, r3, r4⟩ := rowSat_some (h2.sat i _ hi)
        rcases r4.2 with ⟨h0, _⟩ | ⟨g, cap, cur, he, hbg, hg, hnc, _⟩
        · simp only [Value.slice.injEq] at h0; omega
        · simp only [Value.slice.injEq] at he; omega
      refine app_core hT h2 h3 h4 hc ha hi (ad := ⟨0, 0, none⟩) (c2 := c2) hb' ?_ hl (fun j u hu => by simp at hu) (fun u hu => by cases hu) hbnd
      cases a2 <;> cases a <;> simp [den, Builtin.append_, run_underlying u1, sizeOf, typeInfo, i1, Builtin.lenOf, Builtin.firstCells, loadCells, loadCellsFrom, hnc]
    · obtain ⟨b, o', rfl, hcell⟩ := hrd hl0
      exact app_core hT h2 h3 h4 hc ha hi hb' rfl hl (fun jj u hu => by
        rw [Addr.add_lit]; simpa using h2.holds _ _ (hcell jj u hu)) hnews.ones hbnd
  obtain ⟨a', c', w', p1, p2⟩ := core
  obtain ⟨_, hM'⟩ := setN_sound (hs a' c')
  rw [← hM'] at p2
  have hal : ∀ q, alive M q → alive (M' news a' c') q := fun q hq => by rw [hM']; exact alive_set (by simp) hq
  obtain ⟨hg, hd, hn, hf, _⟩ := headOf_some hh
  have hdt : d < t'.size := by rw [g1]; simpa [Nat.blt_eq] using hn
  have hw := guard_sound h4 hg
  show wpList C.P ⟨all⟩ (post C FR DF k) (o :: rest) ⟨t', []⟩ w
  refine wpList_want ?_
  rw [if_pos (hw.2 trivial)]
  refine wp_value p1 ?_
  simp only [Act.put, hd]
  have h3' : LOk env (M' news a' c') L t' := fun s x hx => ⟨(h3 s x hx).1, SV.ok_mono hal (h3 s x hx).2⟩
  have h4' : ROk env (M' news a' c') lr t' := by rw [hM']; exact h4.set (by simp)
  refine (h a' c').to FR DF env (t'.setIfInBounds d (.slice a' (n + m) c')) w' (by simpa using g1) p2 (h3'.put (x := .v _) hdt trivial)
    (h4'.put hdt hf (fun _ => rfl) (fun hn => absurd trivial hn) rfl (.inl rfl) (fun _ => trivial)) ?_
  show DOk DF env V (M' news a' c') _
  rw [hM']
  exact DOk.write hk h5.same

/-! ### Division, shifts -/

def ariOk (op : BinOp) (y : Int) : Prop :=
  match op with
  | .shl => 0 ≤ y
  | .shr => 0 ≤ y
  | _ => y ≠ 0

def shlI (k : IntKind) (x y : Int) : Int := k.wrap (x * 2 ^ (min y.toNat k.bits))
def shrI (k : IntKind) (x y : Int) : Int := x.fdiv (2 ^ (min y.toNat k.bits))
def quoI (k : IntKind) (x y : Int) : Int := k.wrap (x.tdiv y)
def remI (x y : Int) : Int := x.tmod y

def ariOf (od : Look) (G : List (Nat × Bool)) (op : Op) : Option (BinOp × IntKind × IntKind × Int × Int × Int) :=
  match op with
  | .binOp op _ x y _ => match ev od G x, ev od G y with
    | some (.v (.int k a)), some (.v (.int k' b)) => match op with
      | .shl => some (.shl, k, k', a, b, shlI k a b)
      | .shr => some (.shr, k, k', a, b, shrI k a b)
      | .quo => match kEq k k' with
        | true => some (.quo, k, k', a, b, quoI k a b)
        | false => none
      | .rem => match kEq k k' with
        | true => some (.rem, k, k', a, b, remI a b)
        | false => none
      | _ => none
    | _, _ => none
  | _ => none

omit hT in
theorem ari_run {P : Program} {env : List Nat} {M : List OB} {t : Array Value} {od : Look} (hO : Tells env M t od) {G : List (Nat × Bool)} (hG : condT t G) {o : Oper} {op : BinOp} {k k' : IntKind} {a b r : Int}
    (hc : ariOf od G o.op = some (op, k, k', a, b, r)) (hb : ariOk op b) (w : World) : (execOp (⟨t, []⟩ : Act).eval o).run P w = .ok (.value (.int k r)) w := by
  unfold ariOf at hc
  split at hc <;> try (simp at hc; done)
  rename_i op' ty x y ty' hop
  split at hc <;> try (simp at hc; done)
  rename_i k1 a1 k2 b1 hx hy
  have e1 := ev_sound hO hG hx
  have e2 := ev_sound hO hG hy
  simp only [den] at e1 e2
  split at hc <;> try (simp at hc; done)
  · simp only [Option.some.injEq, Prod.mk.injEq] at hc
    obtain ⟨rfl, rfl, rfl, rfl, rfl, rfl⟩ := hc
    have hb : 0 ≤ b1 := hb
    unfold execOp
    simp [hop, e1, e2, eqGuard, binOp, Op.shift, shlI, Int.not_lt.2 hb]
  · simp only [Option.some.injEq, Prod.mk.injEq] at hc
    obtain ⟨rfl, rfl, rfl, rfl, rfl, rfl⟩ := hc
    have hb : 0 ≤ b1 := hb
    unfold execOp
    simp [hop, e1, e2, eqGuard, binOp, Op.shift, shrI, Int.not_lt.2 hb]
  · split at hc <;> try (simp at hc; done)
    rename_i hk
    have := kEq_eq hk
    subst this
    simp only [Option.some.injEq, Prod.mk.injEq] at hc
    obtain ⟨rfl, rfl, rfl, rfl, rfl, rfl⟩ := hc
    have hb : b1 ≠ 0 := hb
    unfold execOp
    simp [hop, e1, e2, eqGuard, binOp, Op.intDiv, quoI, hb]
  · split at hc <;> try (simp at hc; done)
    rename_i hk
    have := kEq_eq hk
    subst this
    simp only [Option.some.injEq, Prod.mk.injEq] at hc
    obtain ⟨rfl, rfl, rfl, rfl, rfl, rfl⟩ := hc
    have hb : b1 ≠ 0 := hb
    unfold execOp
    simp [hop, e1, e2, eqGuard, binOp, Op.intDiv, remI, hb]

omit hT in
theorem Exec.ari {o : Oper} {rest all : List Oper} {lr : List REnt} {k : List Kt} {L : Fr} {M : List OB} {V : View} {G : List (Nat × Bool)} {d : Nat} {op : BinOp} {ki k' : IntKind} {a b r : Int}
    (hh : headOf C.nt all lr L o = some (G, d)) (hc : ariOf (opd L lr) G o.op = some (op, ki, k', a, b, r)) (hb : Imp lr G (ariOk op b))
    (h : Exec C ⟨.ops rest all (⟨d, G, .v (.int ki r), d⟩ :: lr) :: k, nextL G d (.v (.int ki r)) L, M⟩ V) : Exec C ⟨.ops (o :: rest) all lr :: k, L, M⟩ V :=
  Exec.yieldsP (x := .v (.int ki r)) hh (fun _ _ w h3 h4 _ hG => ⟨trivial, ari_run (opd_sound h3 h4) hG hc (hb.out h4 hG) w⟩) h

omit hT in
theorem Exec.fari {o : Oper} {all : List Oper} {listed : List Bool} {ends : List Nat} {n0 : Nat} {mask : List Nat} {V1 : View} {m m' i : Nat} {lr : List REnt} {k : List Kt} {L : Fr} {M : List OB} {V : View} {G : List (Nat × Bool)} {d : Nat} {op : BinOp} {ki k' : IntKind} {a b r : Int} {p : List (Nat × Bool)}
    (hh : headX C.nt all lr i L = some (o, G, d)) (hm : m' = m + 1) (hc : ariOf (opd L lr) G o.op = some (op, ki, k', a, b, r)) (hb : Imp lr G (ariOk op b))
    (h : Exec C ⟨.draw ⟨all, setT listed i, m, ends, n0, mask, V1, p, ⟨d, G, .v (.int ki r), d⟩ :: lr⟩ :: k, nextL G d (.v (.int ki r)) L, M⟩ V) : Exec C ⟨.draw ⟨all, listed, m', ends, n0, mask, V1, (i, true) :: p, lr⟩ :: k, L, M⟩ V :=
  Exec.fyields (x := .v (.int ki r)) hh hm (fun _ _ w h3 h4 _ _ hG => ⟨trivial, ari_run (opd_sound h3 h4) hG hc (hb.out h4 hG) w⟩) h

/-! ### Closures -/

theorem RdAt.shift {V : View} {b o off : Nat} {cs : List Value} (h : RdAt V (Option.some ⟨b, o, none⟩) off cs) : RdAt V (Option.some ⟨b, o + off, none⟩) 0 cs := by
  obtain ⟨b', o', h1, h2⟩ := h
  simp only [Option.some.injEq, Addr.mk.injEq, and_true] at h1
  obtain ⟨rfl, rfl⟩ := h1
  exact ⟨_, _, rfl, fun j c hj => by simpa using h2 j c hj⟩

def substR (i b : Nat) : List REnt → List REnt
  | [] => []
  | ⟨s, c, .ptr j o, r⟩ :: L => match Nat.beq j i with
    | true => ⟨s, c, .v (.pointer (some ⟨b, o, none⟩)), r⟩ :: substR i b L
    | false => ⟨s, c, .ptr j o, r⟩ :: substR i b L
  | e :: L => e :: substR i b L

theorem substR_look {i b : Nat} {env : List Nat} (hb : envAt env i = b) : ∀ {lr : List REnt} {s : Nat} {e : REnt}, lookR (substR i b lr) s = some e → ∃ e', lookR lr s = some e' ∧ e'.c = e.c ∧ e'.r = e.r ∧ den env e'.x = den env e.x ∧ (∀ M : List OB, e'.x.ok M → e.x.ok M)
  | [], s, e, h => by simp [substR, lookR] at h
  | ⟨d, c, y, r⟩ :: lr, s, e, h => by
    have key : ∀ z, den env y = den env z → (∀ M : List OB, y.ok M → z.ok M) → lookR (⟨d, c, z, r⟩ :: substR i b lr) s = some e → ∃ e', lookR (⟨d, c, y, r⟩ :: lr) s = some e' ∧ e'.c = e.c ∧ e'.r = e.r ∧ den env e'.x = den env e.x ∧ (∀ M : List OB, e'.x.ok M → e.x.ok M) := by
      intro z h1 h2 h3
      rw [lookR_cons] at h3 ⊢
      split at h3
      · rename_i hd
        simp only [Option.some.injEq] at h3
        subst h3
        rw [if_pos hd]
        exact ⟨_, rfl, rfl, rfl, h1, h2⟩
      · rename_i hd
        rw [if_neg hd]
        exact substR_look hb h3
    cases y with
    | ptr j o =>
      simp only [substR] at h
      split at h
      · rename_i hj
        have := beq_nat hj
        subst this
        exact key (.v (.pointer (some ⟨b, o, none⟩))) (by simp [den, hb]) (fun _ _ => trivial) h
      · exact key _ rfl (fun _ h => h) h
    | v z => exact key _ rfl (fun _ h => h) h
    | slc _ _ _ _ => exact key _ rfl (fun _ h => h) h
    | el _ _ => exact key _ rfl (fun _ h => h) h

theorem plainK_lr {r a : List Oper} {l l' : List REnt} {k : List Kt} (h : plainK (.ops r a l :: k) = true) : plainK (.ops r a l' :: k) = true := by
  cases k with
  | nil => rfl
  | cons x k => cases x <;> first | rfl | (simp [plainK] at h)

omit hT in
/-- A variable of the call's own, which is written no more, is laid open. -/
theorem Exec.openB (i : Nat) {rest all : List Oper} {lr : List REnt} {k : List Kt} {L : Fr} {M M' : List OB} {V : View} {ty : Nat} {sv : List SV} {vs : List Value} {L' : Nat → Fr} {lr' : Nat → List REnt}
    (hk : plainK (.ops rest all lr :: k) = true) (hi : nth M i = some (.blk sv ty)) (hv : vals sv = some vs) (hs : setN M i .unk = some M') (hL : ∀ b, substP i b L = L' b) (hR : ∀ b, substR i b lr = lr' b)
    (h : ∀ V' b, VLe V V' → RdAt V' (some ⟨b, 0, none⟩) 0 vs → Exec C ⟨.ops rest all (lr' b) :: k, L' b, M'⟩ V') : Exec C ⟨.ops rest all lr :: k, L, M⟩ V := by
  obtain ⟨_, rfl⟩ := setN_sound hs
  rw [nth_eq] at hi
  refine Exec.of fun FR DF env t w h1 h2 h3 h4 h5 => ?_
  obtain ⟨V', v1, v2, hW⟩ := h2.openBlk hi hv
  have hal : ∀ q, alive M q → alive (M.set i .unk) q := fun q hq => alive_set (by simp) hq
  refine (h V' (envAt env i) v1 v2).to FR DF env t w h1 hW (fun s x hx => ?_) (fun s e he => ?_) (plainK_D (plainK_lr hk) _ _ _ _)
  · rw [← hL] at hx
    obtain ⟨y, k1, k2, k3⟩ := substP_look (b := envAt env i) rfl hx
    obtain ⟨k4, k5⟩ := h3 s y k1
    exact ⟨by rw [k4, k2], SV.ok_mono hal (k3 M k5)⟩
  · have he : lookR (lr' (envAt env i)) s = some e := he
    rw [← hR] at he
    obtain ⟨e', k1, k2, k3, k4, k5⟩ := substR_look (b := envAt env i) rfl he
    have hh4 : ROk env M lr t := h4
    obtain ⟨g1, g2, g3⟩ := hh4 s e' k1
    rw [k2] at g1 g2
    rw [k3] at g3
    exact ⟨fun hc => ⟨by rw [(g1 hc).1, k4], SV.ok_mono hal (k5 M (g1 hc).2)⟩, g2, g3⟩

def mkfOf (od : Look) (G : List (Nat × Bool)) (op : Op) : Option (Fn × List Value × List Value) :=
  match op with
  | .makeFunc fn ⟨fi⟩ ⟨ca⟩ => match evs od G fi, evs od G ca with
    | some a, some b => some (fn, a, b)
    | _, _ => none
  | _ => none

omit hT in
/-- A closure. -/
theorem Exec.mkf {o : Oper} {rest all : List Oper} {lr : List REnt} {k : List Kt} {L : Fr} {M : List OB} {V : View} {G : List (Nat × Bool)} {d : Nat} {fn : Fn} {a b : List Value}
    (hh : headOf C.nt all lr L o = some (G, d)) (hc : mkfOf (opd L lr) G o.op = some (fn, a, b))
    (h : Exec C ⟨.ops rest all (⟨d, G, .v (.func fn ⟨a⟩ ⟨b⟩), d⟩ :: lr) :: k, nextL G d (.v (.func fn ⟨a⟩ ⟨b⟩)) L, M⟩ V) : Exec C ⟨.ops (o :: rest) all lr :: k, L, M⟩ V := by
  refine Exec.yieldsP (x := .v (.func fn ⟨a⟩ ⟨b⟩)) hh (fun _ _ w h3 h4 _ hG => ⟨trivial, ?_⟩) h
  unfold mkfOf at hc
  split at hc <;> try (simp at hc; done)
  rename_i fn' fi ca hop
  split at hc <;> try (simp at hc; done)
  rename_i a' b' ha hb
  simp only [Option.some.injEq, Prod.mk.injEq] at hc
  obtain ⟨rfl, rfl, rfl⟩ := hc
  have e1 := evs_sound (opd_sound h3 h4) hG ha
  have e2 := evs_sound (opd_sound h3 h4) hG hb
  unfold execOp
  simp [hop, Instr.makeFunc, den, e1, e2]

end
end Go.Proofs.Ytkbldnpifmjipaa
