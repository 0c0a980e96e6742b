/-
  FUNCTIONS AS THEIR LEAN COUNTERPARTS (part a): how data lie in memory; what a counterpart asks; rules that the printed walks use.
  Conditions: the table of types is the program's (TOk).
-/
import Derived.Test.YtkbldnpifmjipaaFp
set_option linter.all false
namespace Go.Proofs.Ytkbldnpifmjipaa

abbrev Str := List UInt8

/-! ### What a counterpart is made of -/

/-- Go on only if p holds. -/
def req {ρ : Type} (p : Prop) [Decidable p] (k : Option ρ) : Option ρ := if p then k else none

theorem req_some {ρ : Type} {p : Prop} [Decidable p] {k : Option ρ} {r : ρ} (h : req p k = some r) : p ∧ k = some r := by
  unfold req at h
  split at h
  · exact ⟨by assumption, h⟩
  · simp at h

theorem cond_some {ρ : Type} {b : Bool} {x y : Option ρ} {r : ρ} (h : cond b x y = some r) : (b = true ∧ x = some r) ∨ (b = false ∧ y = some r) := by
  cases b
  · exact .inr ⟨rfl, h⟩
  · exact .inl ⟨rfl, h⟩

def bnd {α ρ : Type} (x : Option α) (k : α → Option ρ) : Option ρ := match x with | some a => k a | none => none

theorem bnd_some {α ρ : Type} {x : Option α} {k : α → Option ρ} {r : ρ} (h : bnd x k = some r) : ∃ a, x = some a ∧ k a = some r := by
  unfold bnd at h
  split at h
  · exact ⟨_, rfl, h⟩
  · simp at h

/-- A call that is made only if g holds. -/
def gcall {α : Type} [Inhabited α] (g : Bool) (x : Option α) : Option α := cond g x (some default)

theorem gcall_some {α : Type} [Inhabited α] {g : Bool} {x : Option α} {a : α} (h : gcall g x = some a) (hg : g = true) : x = some a := by subst hg; exact h

/-- What comes behind, under a name. -/
@[reducible] def jn {κ ρ : Type} (j : κ) (f : κ → Option ρ) : Option ρ := f j

theorem jn_some {κ ρ : Type} {j : κ} {f : κ → Option ρ} {r : ρ} (h : jn j f = some r) : ∃ J, J = j ∧ f J = some r := ⟨j, rfl, h⟩

theorem some_inj {ρ : Type} {a r : ρ} (h : some a = some r) : a = r := Option.some.inj h

/-- The value under conditions. -/
def gd1 (x : Bool) (b : Bool) : Bool := x == b
theorem gd1_of {x b : Bool} (h : x = b) : (x == b) = true := by subst h; simp
theorem gd2_of {x b y c : Bool} (h : x = b) (k : y = c) : ((x == b) && (y == c)) = true := by subst h; subst k; simp
theorem gd3_of {x b y c z d : Bool} (h : x = b) (k : y = c) (l : z = d) : ((x == b) && ((y == c) && (z == d))) = true := by subst h; subst k; subst l; simp

def atI {α : Type} [Inhabited α] (l : List α) (n : Int) : α := l.getD n.toNat default

/-! ### How data lie in memory -/

structure Cd (α : Type) [Inhabited α] where
  sz : Nat
  rep : View → α → List Value → Prop
  len : ∀ {V x cs}, rep V x cs → cs.length = sz
  mono : ∀ {V V' x cs}, VLe V V' → rep V x cs → rep V' x cs
  one : ∀ {V x cs}, rep V x cs → ∀ u ∈ cs, u.oneCell' = true
  pos : 0 < sz
  dflt : ∃ cs, ∀ V, rep V default cs

/-- A slice's elements lie open from address a on; it has room for k. -/
def SlAt {α : Type} [Inhabited α] (c : Cd α) (V : View) (a : Option Addr) (k : Nat) (l : List α) : Prop := l.length ≤ k ∧ ∀ i x, l[i]? = some x → ∃ cs, c.rep V x cs ∧ RdAt V a (i * c.sz) cs

section
variable {α : Type} [Inhabited α] {c : Cd α} {V V' : View} {a : Option Addr} {k : Nat} {l : List α}

theorem SlAt.nil : SlAt c V a k [] := ⟨Nat.zero_le _, fun i x h => by simp at h⟩

theorem SlAt.mono (h : SlAt c V a k l) (hv : VLe V V') : SlAt c V' a k l := ⟨h.1, fun i x hx => by
  obtain ⟨cs, h1, h2⟩ := h.2 i x hx
  exact ⟨cs, c.mono hv h1, h2.mono hv⟩⟩

theorem SlAt.get (h : SlAt c V a k l) {n : Int} (hn : 0 ≤ n ∧ n < l.length) : ∃ cs, c.rep V (atI l n) cs ∧ RdAt V a (n.toNat * c.sz) cs := by
  have hlt : n.toNat < l.length := by omega
  refine h.2 n.toNat (atI l n) ?_
  simp [atI, hlt]

theorem RdAt.some {off : Nat} {cs : List Value} (h : RdAt V a off cs) : ∃ b o, a = .some ⟨b, o, none⟩ := by
  obtain ⟨b, o, h1, _⟩ := h
  exact ⟨b, o, h1⟩

/-- The element n, if g holds. -/
theorem SlAt.gget (g : Bool) (h : SlAt c V a k l) {n : Int} (hn : g = true → 0 ≤ n ∧ n < l.length) : ∃ cs, c.rep V (cond g (atI l n) default) cs ∧ (g = true → RdAt V a (n.toNat * c.sz) cs) := by
  cases g with
  | false =>
    obtain ⟨cs, hcs⟩ := c.dflt
    exact ⟨cs, hcs V, fun h => by simp at h⟩
  | true =>
    obtain ⟨cs, h1, h2⟩ := h.get (hn rfl)
    exact ⟨cs, h1, fun _ => h2⟩

theorem RdAt.part {off : Nat} {cs : List Value} (h : RdAt V a off cs) (j n : Nat) {r : List Value} (hr : takeN cs j n = .some r) : RdAt V a (off + j) r := by
  obtain ⟨b, o, h1, h2⟩ := h
  refine ⟨b, o, h1, fun i x hx => ?_⟩
  rcases takeN_eq cs j n r hr with ⟨e, _⟩ | ⟨_, e⟩
  · rw [e] at hx
    simp only [List.getElem?_take, List.getElem?_drop] at hx
    split at hx
    · have := h2 (j + i) x hx
      rw [show o + (off + j) + i = o + off + (j + i) by omega]
      exact this
    · simp at hx
  · rw [e] at hx; simp at hx

end

/-- A row's cells are these elements, one behind the other. -/
def RowRep {α : Type} [Inhabited α] (c : Cd α) (V : View) : List α → List Value → Prop
  | [], cs => cs = []
  | x :: l, cs => ∃ e r, cs = e ++ r ∧ c.rep V x e ∧ RowRep c V l r

section
variable {α : Type} [Inhabited α] {c : Cd α} {V V' : View} {a : Option Addr}

theorem RowRep.nil : RowRep c V [] [] := rfl

theorem RowRep.len : ∀ {l : List α} {cs : List Value}, RowRep c V l cs → cs.length = l.length * c.sz
  | [], cs, h => by rw [show cs = [] from h]; simp
  | x :: l, cs, h => by
    obtain ⟨e, r, rfl, h1, h2⟩ := h
    simp [c.len h1, h2.len, Nat.add_mul, Nat.add_comm]

theorem RowRep.mono (hv : VLe V V') : ∀ {l : List α} {cs : List Value}, RowRep c V l cs → RowRep c V' l cs
  | [], _, h => h
  | _ :: _, _, ⟨e, r, h0, h1, h2⟩ => ⟨e, r, h0, c.mono hv h1, h2.mono hv⟩

theorem RowRep.app : ∀ {l l' : List α} {cs cs' : List Value}, RowRep c V l cs → RowRep c V l' cs' → RowRep c V (l ++ l') (cs ++ cs')
  | [], _, cs, _, h, h' => by rw [show cs = [] from h]; exact h'
  | _ :: _, _, _, _, ⟨e, r, h0, h1, h2⟩, h' => by
    subst h0
    exact ⟨e, _, by rw [List.append_assoc], h1, h2.app h'⟩

theorem RowRep.snoc {l : List α} {x : α} {cs e : List Value} (h : RowRep c V l cs) (hx : c.rep V x e) : RowRep c V (l ++ [x]) (cs ++ e) := h.app ⟨e, [], by simp, hx, rfl⟩

theorem RowRep.one {x : α} {e : List Value} (hx : c.rep V x e) : RowRep c V [x] e := ⟨e, [], by simp, hx, rfl⟩

theorem RowRep.at : ∀ {l : List α} {cs : List Value} {i : Nat} {x : α}, RowRep c V l cs → l[i]? = some x → ∃ e, c.rep V x e ∧ CellsAt cs (i * c.sz) e
  | [], _, i, x, _, h => by simp at h
  | y :: l, cs, 0, x, ⟨e, r, h0, h1, h2⟩, h => by
    simp at h
    subst h; subst h0
    refine ⟨e, h1, fun j v hv => ?_⟩
    have := (List.getElem?_eq_some_iff.1 hv).1
    rw [Nat.zero_mul, Nat.zero_add, List.getElem?_append, if_pos this]
    exact hv
  | y :: l, cs, i + 1, x, ⟨e, r, h0, h1, h2⟩, h => by
    simp at h
    obtain ⟨e', k1, k2⟩ := h2.at h
    subst h0
    refine ⟨e', k1, fun j v hv => ?_⟩
    have hl := c.len h1
    rw [List.getElem?_append, if_neg (by rw [hl, Nat.add_mul]; omega), hl]
    rw [show (i + 1) * c.sz + j - c.sz = i * c.sz + j by rw [Nat.add_mul]; omega]
    exact k2 j v hv

theorem RowRep.get {l : List α} {cs : List Value} (h : RowRep c V l cs) {n : Int} (hn : 0 ≤ n ∧ n < l.length) : ∃ e, c.rep V (atI l n) e ∧ CellsAt cs (n.toNat * c.sz) e := by
  have hlt : n.toNat < l.length := by omega
  refine h.at ?_
  simp [atI, hlt]

theorem RowRep.gget (g : Bool) {l : List α} {cs : List Value} (h : RowRep c V l cs) {n : Int} (hn : g = true → 0 ≤ n ∧ n < l.length) :
    ∃ e, c.rep V (cond g (atI l n) default) e ∧ (g = true → CellsAt cs (n.toNat * c.sz) e) := by
  cases g with
  | false =>
    obtain ⟨cs, hcs⟩ := c.dflt
    exact ⟨cs, hcs V, fun h => by simp at h⟩
  | true =>
    obtain ⟨cs, h1, h2⟩ := h.get (hn rfl)
    exact ⟨cs, h1, fun _ => h2⟩

theorem RowRep.put : ∀ {l : List α} {cs : List Value} {i : Nat} {x : α} {e : List Value}, RowRep c V l cs → i < l.length → c.rep V x e → RowRep c V (l.set i x) (cs.take (i * c.sz) ++ e ++ cs.drop (i * c.sz + c.sz))
  | [], _, i, x, e, _, h, _ => by simp at h
  | y :: l, cs, 0, x, e, ⟨e0, r, h0, h1, h2⟩, _, hx => by
    subst h0
    have hl := c.len h1
    refine ⟨e, r, ?_, hx, h2⟩
    rw [Nat.zero_mul, Nat.zero_add, ← hl]
    simp
  | y :: l, cs, i + 1, x, e, ⟨e0, r, h0, h1, h2⟩, hi, hx => by
    subst h0
    have hl := c.len h1
    refine ⟨e0, _, ?_, h1, h2.put (i := i) (by simpa using hi) hx⟩
    have e1 : (i + 1) * c.sz = e0.length + i * c.sz := by rw [hl, Nat.add_mul]; omega
    rw [e1, List.take_length_add_append, Nat.add_assoc, List.drop_length_add_append]
    simp

theorem RowRep.set {l : List α} {cs : List Value} (h : RowRep c V l cs) {n : Int} (hn : 0 ≤ n ∧ n < l.length) {x : α} {e : List Value} (hx : c.rep V x e) :
    RowRep c V (l.set n.toNat x) (cs.take (n.toNat * c.sz) ++ e ++ cs.drop (n.toNat * c.sz + c.sz)) := h.put (by omega) hx

theorem RowRep.reps {z : List Value} (hz : c.rep V default z) : ∀ n : Nat, RowRep c V (List.replicate n default) (List.replicate n z).flatten
  | 0 => rfl
  | n + 1 => ⟨z, _, by rw [List.replicate_succ, List.flatten_cons], hz, RowRep.reps hz n⟩

theorem CellsAt.part {cs : List Value} {off : Nat} {e : List Value} (h : CellsAt cs off e) (j n : Nat) {r : List Value} (hr : takeN e j n = some r) : CellsAt cs (off + j) r := by
  intro i x hx
  rcases takeN_eq e j n r hr with ⟨q, _⟩ | ⟨_, q⟩
  · rw [q] at hx
    simp only [List.getElem?_take, List.getElem?_drop] at hx
    split at hx
    · have := h (j + i) x hx
      rw [show off + j + i = off + (j + i) by omega]
      exact this
    · simp at hx
  · rw [q] at hx; simp at hx

/-- A row that is laid open. -/
theorem RowRep.slat {l : List α} {cs : List Value} {k : Nat} (h : RowRep c V l cs) (hv : VLe V V') (hrd : cs ≠ [] → RdAt V' a 0 cs) (hk : l.length ≤ k) : SlAt c V' a k l := by
  refine ⟨hk, fun i x hx => ?_⟩
  obtain ⟨e, h1, h2⟩ := h.at hx
  have hne : cs ≠ [] := by
    rintro rfl
    have hl := c.len h1
    have hp := c.pos
    obtain ⟨u, hu⟩ : ∃ u, e[0]? = some u := ⟨e[0]'(by omega), by simp⟩
    have := h2 0 u hu
    simp at this
  obtain ⟨b, o, rfl, hc⟩ := hrd hne
  refine ⟨e, c.mono hv h1, b, o, rfl, fun j v hj => ?_⟩
  have := hc (i * c.sz + j) v (h2 j v hj)
  simpa [Nat.add_assoc] using this

/-- An open slice as a row of cells. -/
theorem SlAt.cells : ∀ {l : List α} (k : Nat), (∀ i x, l[i]? = some x → ∃ cs, c.rep V x cs ∧ RdAt V a ((k + i) * c.sz) cs) → ∃ cs, RowRep c V l cs ∧ (∀ j v, cs[j]? = some v → ∃ b o, a = some ⟨b, o, none⟩ ∧ V ⟨b, o + k * c.sz + j, none⟩ = some v)
  | [], k, _ => ⟨[], rfl, fun j v h => by simp at h⟩
  | x :: l, k, h => by
    obtain ⟨e, h1, b, o, h2, h3⟩ := h 0 x rfl
    obtain ⟨cs, h4, h5⟩ := SlAt.cells (l := l) (k + 1) fun i y hy => by
      have := h (i + 1) y (by simpa using hy)
      rwa [show k + (i + 1) = k + 1 + i by omega] at this
    have hl := c.len h1
    refine ⟨e ++ cs, ⟨e, cs, rfl, h1, h4⟩, fun j v hv => ?_⟩
    rw [List.getElem?_append] at hv
    split at hv
    · exact ⟨b, o, h2, by simpa using h3 j v hv⟩
    · obtain ⟨b', o', k1, k2⟩ := h5 _ v hv
      rw [hl] at k2
      refine ⟨b', o', k1, ?_⟩
      rw [← k2]
      congr 2
      rw [Nat.add_mul]
      omega

theorem SlAt.row {l : List α} {k : Nat} (h : SlAt c V a k l) (hne : l ≠ []) : ∃ cs, RowRep c V l cs ∧ RdAt V a 0 cs := by
  have h := h.2
  obtain ⟨cs, h1, h2⟩ := SlAt.cells (c := c) (V := V) (a := a) (l := l) 0 (fun i x hx => by simpa using h i x hx)
  obtain ⟨x, l', rfl⟩ : ∃ x l', l = x :: l' := by
    cases l with
    | nil => exact absurd rfl hne
    | cons x l => exact ⟨x, l, rfl⟩
  obtain ⟨e, _, b, o, rfl, _⟩ := h 0 x rfl
  refine ⟨cs, h1, b, o, rfl, fun j v hv => ?_⟩
  obtain ⟨b', o', k1, k2⟩ := h2 j v hv
  simp only [Option.some.injEq, Addr.mk.injEq, and_true] at k1
  obtain ⟨rfl, rfl⟩ := k1
  simpa using k2

end

/-! ### Plain kinds of data -/

instance : Inhabited Str := ⟨[]⟩

def cInt (k : IntKind) : Cd Int where
  sz := 1
  rep _ n cs := cs = [.int k n]
  len h := by subst h; rfl
  mono _ h := h
  one h := by subst h; intro u hu; simp at hu; subst hu; rfl
  pos := by omega
  dflt := ⟨_, fun _ => rfl⟩

def cBool : Cd Bool where
  sz := 1
  rep _ n cs := cs = [.bool n]
  len h := by subst h; rfl
  mono _ h := h
  one h := by subst h; intro u hu; simp at hu; subst hu; rfl
  pos := by omega
  dflt := ⟨_, fun _ => rfl⟩

def cStr : Cd Str where
  sz := 1
  rep _ n cs := cs = [.string ⟨⟨n⟩⟩]
  len h := by subst h; rfl
  mono _ h := h
  one h := by subst h; intro u hu; simp at hu; subst hu; rfl
  pos := by omega
  dflt := ⟨_, fun _ => rfl⟩

def cSl {α : Type} [Inhabited α] (c : Cd α) : Cd (List α) where
  sz := 1
  rep V l cs := ∃ a k, cs = [.slice a l.length k] ∧ SlAt c V a k l
  len h := by obtain ⟨a, k, rfl, _⟩ := h; rfl
  mono hv h := by
    obtain ⟨a, k, rfl, h⟩ := h
    exact ⟨a, k, rfl, h.mono hv⟩
  one h := by obtain ⟨a, k, rfl, _⟩ := h; intro u hu; simp at hu; subst hu; rfl
  pos := by omega
  dflt := ⟨[.slice none 0 0], fun _ => ⟨none, 0, rfl, SlAt.nil⟩⟩

/-! ### Function values -/

/-- A function value of one argument that does as g says. -/
def FnSpec1 {α β : Type} (P : Program) (f : Nat) (ca : List Value) (V : View) (mk : α → Value) (res : β → Value) (g : α → Option β) : Prop :=
  ∀ V', VLe V V' → ∀ y r, g y = some r → Spec P f ([mk y] ++ ca) V' (fun _ v => v = res r)

theorem FnSpec1.mono {α β : Type} {P : Program} {f : Nat} {ca : List Value} {V V' : View} {mk : α → Value} {res : β → Value} {g : α → Option β} (h : FnSpec1 P f ca V mk res g) (hv : VLe V V') : FnSpec1 P f ca V' mk res g :=
  fun V1 h1 => h V1 (hv.trans h1)

theorem FnSpec1.at {α β : Type} {P : Program} {f : Nat} {ca : List Value} {V : View} {mk : α → Value} {res : β → Value} {g : α → Option β} (h : FnSpec1 P f ca V mk res g) {y : α} {r : β} (hr : g y = some r) : Spec P f ([mk y] ++ ca) V (fun _ v => v = res r) :=
  h V (VLe.refl V) y r hr

def FnSpec2 {α α' β : Type} (P : Program) (f : Nat) (ca : List Value) (V : View) (mk : α → Value) (mk' : α' → Value) (res : β → Value) (g : α → α' → Option β) : Prop :=
  ∀ V', VLe V V' → ∀ y z r, g y z = some r → Spec P f ([mk y, mk' z] ++ ca) V' (fun _ v => v = res r)

theorem FnSpec2.mono {α α' β : Type} {P : Program} {f : Nat} {ca : List Value} {V V' : View} {mk : α → Value} {mk' : α' → Value} {res : β → Value} {g : α → α' → Option β} (h : FnSpec2 P f ca V mk mk' res g) (hv : VLe V V') : FnSpec2 P f ca V' mk mk' res g :=
  fun V1 h1 => h V1 (hv.trans h1)

theorem FnSpec2.at {α α' β : Type} {P : Program} {f : Nat} {ca : List Value} {V : View} {mk : α → Value} {mk' : α' → Value} {res : β → Value} {g : α → α' → Option β} (h : FnSpec2 P f ca V mk mk' res g) {y : α} {z : α'} {r : β} (hr : g y z = some r) : Spec P f ([mk y, mk' z] ++ ca) V (fun _ v => v = res r) :=
  h V (VLe.refl V) y z r hr

/-! ### Rules -/

section
variable {C : Ctx}

/-- A SEAM: what holds where two ways meet. -/
theorem Exec.seam {kt : Code} {k : List Kt} {L : Fr} {M : List OB} {V : View} (I : Fr → View → List OB → Prop) (hk : noOps k = true) (h1 : ∀ L V M, I L V M → Exec C ⟨k, L, M⟩ V)
    (h2 : Exec C ⟨.code kt :: .inLoop I :: k, L, M⟩ V) : Exec C ⟨.code kt :: k, L, M⟩ V := by
  refine Exec.of fun FR DF env t w g1 g2 g3 g4 g5 => ?_
  have := h2.to FR DF env t w g1 g2 g3 g4 trivial
  refine Go.wp_mono this fun e a2 w2 hp => ?_
  cases e with
  | normal =>
    obtain ⟨k1, k2, env2, L2, V2, M2, k3, k4, k5⟩ := hp
    cases a2
    simp only at k1 k2 k4
    subst k1
    exact (h1 L2 V2 M2 k5).to0 hk k2 k3 k4 .none
  | exit id => exact hp
  | goto l => exact hp
  | ret => exact hp
  | panic ch => exact hp
  | outgrown => exact hp

/-- The conditions stand in slots that were reckoned in any case. -/
def rootsOk (lr : List REnt) : List (Nat × Bool) → Bool
  | [] => true
  | (r, _) :: G => match lookR lr r with
    | some ⟨_, c, .v (.bool _), _⟩ => match subC c G with
      | true => rootsOk lr G
      | false => false
    | _ => false

theorem Imp.of_true {lr : List REnt} {p : Prop} (h : p) : ∀ {G : List (Nat × Bool)}, Imp lr G p
  | [] => h
  | (r, b) :: G => by
    simp only [Imp]
    split
    · exact fun _ => Imp.of_true h
    · exact Imp.of_true h

theorem Imp.of_false {env : List Nat} {M : List OB} {lr : List REnt} {t : Array Value} (hR : ROk env M lr t) {p : Prop} : ∀ {G : List (Nat × Bool)}, rootsOk lr G = true → ¬ condT t G → Imp lr G p
  | [], _, h => absurd trivial h
  | (r, b) :: G, hr, h => by
    simp only [rootsOk] at hr
    split at hr <;> try (simp at hr; done)
    rename_i s c x r' he
    split at hr <;> try (simp at hr; done)
    rename_i hsub
    simp only [Imp, he]
    intro hx
    refine Imp.of_false hR hr fun hc => h ⟨?_, hc⟩
    have ht := ((hR r _ he).1 (subC_sound t G c hsub hc)).1
    rw [ht, ← hx]
    rfl

/-- A CALL under its guard, whose value is told by the contract. -/
theorem Exec.callG {β : Type} (mk : β → Value) (y0 : β) {o : Oper} {rest all : List Oper} {lr : List REnt} {k : List Kt} {L : Fr} {M : List OB} {V : View} {G : List (Nat × Bool)} {d f : Nat} {args : List Value} {R : View → β → Prop}
    (hh : headOf C.nt all lr L o = some (G, d)) (hc : callOf (opd L lr) G o.op = some (f, args)) (hroots : rootsOk lr G = true) (hs : Imp lr G (Spec C.P f args V fun V' v => ∃ y, v = mk y ∧ R V' y))
    (h : ∀ V' y, VLe V V' → Imp lr G (R V' y) → Exec C ⟨.ops rest all (⟨d, G, .v (mk y), d⟩ :: lr) :: k, nextL G d (.v (mk y)) L, M⟩ V') : Exec C ⟨.ops (o :: rest) all lr :: k, L, M⟩ V := by
  refine Exec.of fun FR DF env t w h1 h2 h3 h4 h5 => ?_
  obtain ⟨hg, hd, hn, hf, hGL⟩ := headOf_some hh
  have hdt : d < t.size := by rw [h1]; simpa [Nat.blt_eq] using hn
  have hw := guard_sound h4 hg
  show wpList C.P ⟨all⟩ (post C FR DF k) (o :: rest) ⟨t, []⟩ w
  refine wpList_want ?_
  have fin : ∀ V' y w', VLe V V' → Imp lr G (R V' y) → WOk C.V0 FR env V' M w' → ∀ u, ((condT t G → u = mk y) ∧ (¬ condT t G → u = undef)) → post C FR DF (.ops rest all (⟨d, G, .v (mk y), d⟩ :: lr) :: k) .normal ⟨t.setIfInBounds d u, []⟩ w' := by
    intro V' y w' hv hR hW' u hu
    refine (h V' y hv hR).to FR DF env _ w' (by simpa using h1) hW' ?_ (h4.put hdt hf hu.1 hu.2 (guard_fresh hg hf) (.inl rfl) (fun _ => trivial)) (DOk.grow ⟨[], by simp⟩ hv ⟨[], by simp⟩ h5.same)
    rcases hGL with rfl | ⟨hne, hnone⟩
    · rw [hu.1 trivial]
      exact h3.put (x := .v (mk y)) hdt trivial
    · cases G with
      | nil => exact absurd rfl hne
      | cons g G => exact h3.put_new hnone u
  by_cases hcn : condT t G
  · rw [if_pos (hw.2 hcn)]
    obtain ⟨hfn, hcall⟩ := hs.out h4 hcn
    unfold Oper.wp
    rw [callOf_wp (opd_sound h3 h4) hcn hc hfn w]
    refine (hcall w h2.holds).mono fun e w' ⟨v, V', p1, p2, p3, p4, p5, y, p6, p7⟩ => ?_
    subst p1; subst p6
    have hlt : ∀ b o, FR.blk b = some o → b < w.heap.size := fun b o ho => (Array.getElem?_eq_some_iff.1 (h2.frame b o ho)).1
    have hW' : WOk C.V0 FR env V' M w' := by
      refine ⟨p2.os.trans h2.os, p2.tape.trans h2.tape, p2.output.trans h2.output, fun b o ho => by rw [p2.block b (hlt b o ho)]; exact h2.frame b o ho, h2.le.trans p3, p4, ?_, h2.len, ?_, ?_, h2.apartF, h2.apart⟩
      · intro a y hy
        rcases p5 a y hy with hy | hy
        · exact h2.fresh a y hy
        · right
          cases hb : FR.blk a.block with
          | none => rfl
          | some o => have := hlt _ o hb; omega
      · intro i ob hob
        exact OB.sat_of rfl (fun _ _ => rfl) (fun x hx => hx) (h2.sat i ob hob) fun kk hk => p2.block kk (OB.own_lt (h2.sat i ob hob) hk)
      · intro i ob a hob ha
        have := OB.own_lt (h2.sat i ob hob) ha
        cases hv : V' a with
        | none => rfl
        | some y =>
          rcases p5 a y hv with hy | hy
          · rw [h2.apartV i ob a hob ha] at hy; simp at hy
          · omega
    simp only [Act.put, hd]
    exact fin V' y w' p3 (Imp.of_true p7) hW' _ ⟨fun _ => rfl, fun hn => absurd hcn hn⟩
  · rw [if_neg (fun e => hcn (hw.1 e))]
    simp only [Act.put, hd]
    exact fin V y0 w (VLe.refl V) (Imp.of_false h4 hroots hcn) h2 undef ⟨fun e => absurd e hcn, fun _ => rfl⟩

end
end Go.Proofs.Ytkbldnpifmjipaa
