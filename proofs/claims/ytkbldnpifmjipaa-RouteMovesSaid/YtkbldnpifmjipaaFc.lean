/-
  A FRAMEWORK FOR PROOFS ABOUT CALLS (part c): the state of a call, the judgement 'Exec', and the step function.
  Conditions: none here.
-/
import Derived.Test.YtkbldnpifmjipaaFw
import Derived.Maps.AppendAt
set_option linter.all false
namespace Go.Proofs.Ytkbldnpifmjipaa

/-- The memory that nobody writes any more, as far as it is known. -/
abbrev View := Addr → Option Value
def VLe (V V' : View) : Prop := ∀ a x, V a = some x → V' a = some x
def Holds (V : View) (w : World) : Prop := ∀ a x, V a = some x → w.cell? a = some x

theorem VLe.refl (V : View) : VLe V V := fun _ _ h => h
theorem VLe.trans {V V' V'' : View} (h : VLe V V') (k : VLe V' V'') : VLe V V'' := fun a x hx => k a x (h a x hx)

structure Frm where
  os : Os
  tape : Nat → Question → Nat
  output : Array (Nat × ByteArray)
  blk : Nat → Option Obj

/-- The slice x lies at the head of a block of its own, of elements of type e; its cells are cs. -/
def rowSat (w : World) (e sz : Nat) (x : Value) (cs : List Value) : Prop := ∃ n, w.ownsRow 0 e sz x n cs

def OB.sat (env : List Nat) (M : List OB) (w : World) (b : Nat) : OB → Prop
  | .gone => True
  | .blk cs ty => w.heap[b]? = some (.cells ⟨cs.map (den env)⟩ ty (0, 0)) ∧ ∀ x ∈ cs, x.ok M
  | .row x cs e sz => rowSat w e sz x cs

def OB.own (b : Nat) : OB → Addr → Prop
  | .gone, _ => False
  | .blk _ _, a => a.block = b
  | .row x _ _ _, a => x.ownBlock = some a.block

structure WOk (V0 : View) (FR : Frm) (env : List Nat) (V : View) (M : List OB) (w : World) : Prop where
  os : w.os = FR.os
  tape : w.tape = FR.tape
  output : w.output = FR.output
  frame : ∀ b o, FR.blk b = some o → w.heap[b]? = some o
  le : VLe V0 V
  holds : Holds V w
  fresh : ∀ a x, V a = some x → V0 a = some x ∨ FR.blk a.block = none
  len : env.length = M.length
  sat : ∀ (i : Nat) (o : OB), M[i]? = some o → o.sat env M w (envAt env i)
  apartV : ∀ (i : Nat) (o : OB) a, M[i]? = some o → o.own (envAt env i) a → V a = none
  apartF : ∀ (i : Nat) (o : OB) a, M[i]? = some o → o.own (envAt env i) a → FR.blk a.block = none
  apart : ∀ (i j : Nat) (o o' : OB) a, i ≠ j → M[i]? = some o → M[j]? = some o' → o.own (envAt env i) a → ¬ o'.own (envAt env j) a

def LOk (env : List Nat) (M : List OB) (L : Fr) (t : Array Value) : Prop := ∀ s x, lookL L s = some x → t[s]? = some (den env x) ∧ x.ok M

/-- These blocks are there, as they are described. -/
def RdM (env : List Nat) (M Mr : List OB) (w : World) : Prop :=
  (∀ (i : Nat) (cs : List SV) (ty : Nat), Mr[i]? = some (.blk cs ty) → w.heap[envAt env i]? = some (.cells ⟨cs.map (den env)⟩ ty (0, 0)) ∧ ∀ x ∈ cs, x.ok M) ∧
    ∀ (i : Nat) (x : Value) (cs : List Value) (e sz : Nat), Mr[i]? = some (.row x cs e sz) → rowSat w e sz x cs

theorem WOk.rd {V0 V : View} {FR : Frm} {env : List Nat} {M : List OB} {w : World} (h : WOk V0 FR env V M w) : RdM env M M w := ⟨fun i _ _ hi => h.sat i _ hi, fun i _ _ _ _ hi => h.sat i _ hi⟩

def condT (t : Array Value) : List (Nat × Bool) → Prop
  | [] => True
  | a :: l => t[a.1]? = some (.bool a.2) ∧ condT t l

def ROk (env : List Nat) (M : List OB) (lr : List REnt) (t : Array Value) : Prop :=
  ∀ s e, lookR lr s = some e → (condT t e.c → t[s]? = some (den env e.x) ∧ e.x.ok M) ∧ (¬ condT t e.c → t[s]? = some undef) ∧ t[e.r]? = t[s]?

structure Ctx where
  P : Program
  T : List TyD
  fn : Func
  nt : Nat
  V0 : View
  R : View → Value → List OB → Prop

/-- A region whose order is drawn, under way: what has come up; whatever ends the reading of memory; what was at its start. -/
structure Draw where
  all : List Oper
  listed : List Bool
  n : Nat
  ends : List Nat
  n0 : Nat
  mask : List Nat
  V : View
  plan : List (Nat × Bool)
  lr : List REnt

/-- What a region met. -/
structure DFr where
  env : List Nat
  V : View
  M : List OB

def DFr.none : DFr := ⟨[], fun _ => Option.none, []⟩

def SD (DF : DFr) (w : World) : Prop :=
  Holds DF.V w ∧ (∀ (i : Nat) (cs : List SV) (ty : Nat), DF.M[i]? = some (.blk cs ty) → w.heap[envAt DF.env i]? = some (.cells ⟨cs.map (den DF.env)⟩ ty (0, 0))) ∧
    ∀ (i : Nat) (x : Value) (cs : List Value) (e sz : Nat), DF.M[i]? = some (.row x cs e sz) → rowSat w e sz x cs

def noneUp : List Nat → List Bool → Bool
  | [], _ => true
  | e :: l, ls => match lst ls e with
    | true => false
    | false => noneUp l ls

def takeL {α : Type} : Nat → List α → List α
  | 0, _ => []
  | _ + 1, [] => []
  | n + 1, a :: l => a :: takeL n l

def inL (i : Nat) : List Nat → Bool
  | [] => false
  | a :: l => match Nat.beq a i with
    | true => true
    | false => inL i l

/-- The first n blocks; those that are written meanwhile are left out. -/
def rdM (mask : List Nat) : Nat → Nat → List OB → List OB
  | _, 0, _ => []
  | _, _ + 1, [] => []
  | i, n + 1, b :: l => match inL i mask with
    | true => .gone :: rdM mask (i + 1) n l
    | false => b :: rdM mask (i + 1) n l

def drawOk (all : List Oper) (ends : List Nat) (listed : List Bool) (i d : Nat) (li : List Nat) : Bool :=
  match noSelB all, sameL all listed, freeB all listed i d li 0 all, endsOk all listed i ends with
  | true, true, true, true => true
  | _, _, _, _ => false

/-- Operation i may be taken first, as far as slots and order go. -/
def headD (all : List Oper) (ends : List Nat) (listed : List Bool) (i : Nat) : Bool :=
  match nth all i with
  | some o => match o.dst, looks all o with
    | some d, some li => match drawOk all ends listed i d li with
      | true => inL i (rdy listed 0 all)
      | false => false
    | _, _ => false
  | none => false

def loneI (i : Nat) : List Nat → Bool
  | [j] => Nat.beq j i
  | _ => false

/-- A plan: in this order; 'true': is taken first; 'false': is the only one that may come up. -/
def planOk (all : List Oper) (ends : List Nat) : Nat → List Bool → List (Nat × Bool) → Bool
  | _, _, [] => true
  | 0, _, _ :: _ => false
  | n + 1, listed, (i, true) :: r => match headD all ends listed i with
    | true => planOk all ends n (setT listed i) r
    | false => false
  | n + 1, listed, (i, false) :: r => match sameL all listed, loneI i (rdy listed 0 all) with
    | true, true => planOk all ends n (setT listed i) r
    | _, _ => false

structure DOk0 (DF : DFr) (D : Draw) (env : List Nat) (V : View) (M : List OB) : Prop where
  pre : ∃ r, env = DF.env ++ r
  len : DF.env.length = D.n0
  lenM : D.n0 ≤ M.length
  v : DF.V = D.V
  vle : VLe DF.V V
  ok : ∃ M1 : List OB, M1.length = D.n0 ∧ ∀ (i : Nat) (cs : List SV) (ty : Nat), DF.M[i]? = some (.blk cs ty) → ∀ x ∈ cs, x.ok M1
  mem : noneUp D.ends D.listed = true → DF.M = rdM D.mask 0 D.n0 M
  plan : planOk D.all D.ends D.n D.listed D.plan = true

inductive Kt where
  | draw (D : Draw)
  | code (c : Code)
  | inBlock (id : Nat)
  | inLoop (I : Fr → View → List OB → Prop)
  | ops (rest all : List Oper) (lr : List REnt)

structure St where
  k : List Kt
  L : Fr
  M : List OB

/-- What holds when the call has come to its end. -/
def endP (C : Ctx) (FR : Frm) (e : Ending) (w : World) : Prop :=
  ∃ v env V M, e = .returned v ∧ WOk C.V0 FR env V M w ∧ C.R V v M

def post (C : Ctx) (FR : Frm) : DFr → List Kt → Exit → Act → World → Prop
  | _, [] => bodyPost C.P C.fn (endP C FR)
  | _, .code c :: k => Exit.then (c.wp C.P (post C FR .none k)) (post C FR .none k)
  | _, .inBlock id :: k => Exit.inBlock id (post C FR .none k)
  | _, .inLoop I :: k => Exit.then (fun a w => a.defers = [] ∧ a.tmps.size = C.nt ∧ ∃ env L V M, WOk C.V0 FR env V M w ∧ LOk env M L a.tmps ∧ I L V M) (post C FR .none k)
  | DF, .ops rest all _ :: k => Exit.then (wpList C.P ⟨all⟩ (post C FR DF k) rest) (post C FR DF k)
  | DF, .draw D :: k => Exit.then (fun a w => SF D.ends (SD DF) ⟨D.listed⟩ w ∧ wpAnyG C.P ⟨D.all⟩ (post C FR .none k) (SF D.ends (SD DF)) D.n ⟨D.listed⟩ a w) (post C FR .none k)

def hdR : List Kt → List REnt
  | .ops _ _ lr :: _ => lr
  | .draw D :: _ => D.lr
  | _ => []

def DOk (DF : DFr) (env : List Nat) (V : View) (M : List OB) : List Kt → Prop
  | .draw D :: _ => DOk0 DF D env V M
  | .ops _ _ _ :: .draw D :: _ => DOk0 DF D env V M
  | _ => True

@[irreducible] def Exec (C : Ctx) (s : St) (V : View) : Prop :=
  ∀ FR DF env t w, t.size = C.nt → WOk C.V0 FR env V s.M w → LOk env s.M s.L t → ROk env s.M (hdR s.k) t → DOk DF env V s.M s.k → post C FR DF s.k .normal ⟨t, []⟩ w

/-! ### The step function -/

def exitK (id : Nat) : List Kt → Option (List Kt)
  | [] => none
  | .inBlock id' :: k => match Nat.beq id' id with
    | true => some k
    | false => exitK id k
  | _ :: k => exitK id k

def setN {α : Type} : List α → Nat → α → Option (List α)
  | [], _, _ => none
  | _ :: l, 0, x => some (x :: l)
  | a :: l, n + 1, x => match setN l n x with
    | some r => some (a :: r)
    | none => none

/-- The list with one more at its end, and the place of that one. -/
def snocN {α : Type} : List α → α → Nat → Option (List α × Nat)
  | [], x, i => some ([x], i)
  | a :: l, x, i => match snocN l x (i + 1) with
    | some (r, n) => some (a :: r, n)
    | none => none

def liftV : List Value → Option (List SV)
  | [] => some []
  | x :: l => match liftV l with
    | some r => some (.v x :: r)
    | none => none

def cellsV : SV → Option (List SV)
  | .v (.agg ⟨cs⟩) => liftV cs
  | .v x => some [.v x]
  | x => some [x]

def one : SV → Bool
  | .v (.agg _) => false
  | .v (.tuple _) => false
  | .v (.bool _) => true
  | .v (.int _ _) => true
  | .v (.string _) => true
  | .v (.pointer _) => true
  | .v (.slice _ _ _) => true
  | .v (.map _) => true
  | .v (.func _ _ _) => true
  | .v .nilFunc => true
  | .v (.iface _ _) => true
  | .v .nilIface => true
  | .ptr _ _ => true
  | .slc _ _ _ _ => true
  | .el _ _ => true
  | _ => false

def allOne : List SV → Bool
  | [] => true
  | x :: l => match one x with
    | true => allOne l
    | false => false

def sameLen {α β : Type} : List α → List β → Bool
  | [], [] => true
  | _ :: l, _ :: r => sameLen l r
  | _, _ => false

/-- The parts of a composite literal, laid over its zero. -/
def fillSV (place : Nat → Option (Nat × Nat)) (e : Operand → Option SV) (cs : List SV) : List (Nat × Operand) → Option (List SV)
  | [] => some cs
  | (i, x) :: r => match place i with
    | some (off, size) => match e x with
      | some v => match cellsV v with
        | some vs => match Nat.beq vs.length size with
          | true => match putN cs off vs with
            | some cs' => fillSV place e cs' r
            | none => none
          | false => none
        | none => none
      | none => none
    | none => none

def placeOf (T : List TyD) (t : Nat) (i : Nat) : Option (Nat × Nat) :=
  match fieldV T t i with
  | some (off, fd) => some (off, fd.size)
  | none => none

/-- Every field's type is in the table. -/
def allF (T : List TyD) : List (Nat × Nat) → Bool
  | [] => true
  | (_, ft) :: r => match nth T ft with
    | some fd => match fd.size with
      | 0 => false
      | _ + 1 => allF T r
    | none => false

def buildSV (T : List TyD) (t : Nat) (parts : List (Nat × Operand)) (e : Operand → Option SV) : Option SV :=
  match nth T t with
  | some d => match d.size with
    | 0 => none
    | _ + 1 => match d.und with
      | .struct fs => match allF T fs with
        | true => match liftV d.zero with
          | some z => match fillSV (placeOf T t) e z parts with
            | some cs => match vals cs with
              | some l => some (.v (.agg ⟨l⟩))
              | none => none
            | none => none
          | none => none
        | false => none
      | _ => none
  | none => none

def repN (z : List SV) : Nat → Option (List SV)
  | 0 => some []
  | n + 1 => match repN z n with
    | some r => some (z ++ r)
    | none => none

/-- A value that an operation yields without touching memory: with the slot that it stands for. -/
def valOf (T : List TyD) (od : Look) (M : List OB) (G : List (Nat × Bool)) (op : Op) : Option (SV × Option Nat) :=
  match op with
  | .move x => match od x with
    | some (c, v, r) => match subC c G with
      | true => match subC G c with
        | true => some (v, r)
        | false => some (v, none)
      | false => none
    | none => none
  | .pick c a b => match od c with
    | some (cc, .v (.bool x), rc) => match subC cc G with
      | true => match rc with
        | some r => match ev od ((r, true) :: G) a, ev od ((r, false) :: G) b with
          | some va, some vb => match pickSV x a b va vb with
            | some v => some (v, none)
            | none => none
          | _, _ => none
        | none => match ev od G a, ev od G b with
          | some va, some vb => match pickSV x a b va vb with
            | some v => some (v, none)
            | none => none
          | _, _ => none
      | false => none
    | _ => none
  | .load t x => match nth T t with
    | some d => match d.size with
      | 0 => none
      | _ + 1 => match ev od G x with
        | some (.ptr i o) => match nth M i with
          | some (.blk cs _) => match loadSV d cs o with
            | some v => some (v, none)
            | none => none
          | _ => none
        | _ => none
    | none => none
  | .nilCheck x => match ev od G x with
    | some (.ptr i o) => some (.ptr i o, none)
    | _ => none
  | .build t ⟨parts⟩ => match buildSV T t parts (ev od G) with
    | some v => some (v, none)
    | none => none
  | op => match pv T op (ev od G) with
    | some v => some (v, none)
    | none => none

/-- An operation that makes or writes memory of the call's own: its value and the memory behind it. -/
def memOf (T : List TyD) (od : Look) (M : List OB) (op : Op) : Option (Option SV × List OB) :=
  match op with
  | .store t x y => match nth T t with
    | some d => match d.size with
      | 0 => none
      | sz + 1 => match ev od [] x, ev od [] y with
        | some (.ptr i o), some v => match nth M i with
          | some (.blk cs ty) => match cellsV v with
            | some vs => match Nat.beq vs.length (sz + 1), allOne vs with
              | true, true => match putN cs o vs with
                | some cs' => match setN M i (.blk cs' ty) with
                  | some M' => some (none, M')
                  | none => none
                | none => none
              | _, _ => none
            | none => none
          | _ => none
        | _, _ => none
    | none => none
  | .box t x => match ev od [] x with
    | some v => match cellsV v with
      | some cs => match snocN M (.blk cs t) 0 with
        | some (M', n) => some (some (.ptr n 0), M')
        | none => none
      | none => none
    | none => none
  | .alloc t => match nth T t with
    | some d => match d.size with
      | 0 => none
      | _ + 1 => match liftV d.zero with
        | some z => match snocN M (.blk z t) 0 with
          | some (M', n) => some (some (.ptr n 0), M')
          | none => none
        | none => none
    | none => none
  | _ => none

/-- A slice literal: the slice and the memory behind it. -/
def bslOf (T : List TyD) (od : Look) (M : List OB) (op : Op) : Option (SV × List OB × Nat × List SV × Nat) :=
  match op with
  | .buildSlice t len ⟨parts⟩ => match nth T t with
    | some d => match d.size with
      | 0 => none
      | _ + 1 => match d.und with
        | .slice e => match nth T e with
          | some ed => match ed.size with
            | 0 => none
            | sz + 1 => match Nat.ble (len * (sz + 1)) 16777216, liftV ed.zero, Nat.beq ed.zero.length (sz + 1) with
              | true, some z, true => match repN z len with
                | some cs0 => match fillSV (fun i => some (i * (sz + 1), sz + 1)) (ev od []) cs0 parts with
                  | some cs => match snocN M (.blk cs e) 0 with
                    | some (M', n) => some (.slc n 0 len len, M', n, cs, e)
                    | none => none
                  | none => none
                | none => none
              | _, _, _ => none
          | none => none
        | _ => none
    | none => none
  | _ => none

/-- No region is under way that still reads block i. -/
def wrOk (i : Nat) : List Kt → Bool
  | .draw D :: _ => match noneUp D.ends D.listed with
    | true => match inL i D.mask with
      | true => true
      | false => Nat.ble D.n0 i
    | false => true
  | _ => true

/-- The block that is written. -/
def stAt (od : Look) : Op → Option Nat
  | .store _ x _ => match ev od [] x with
    | some (.ptr i _) => some i
    | _ => none
  | _ => none

def stepOp (T : List TyD) (nt : Nat) (o : Oper) (rest all : List Oper) (lr : List REnt) (k : List Kt) (L : Fr) (M : List OB) : Option St :=
  match guardC all lr o.guard with
  | none => none
  | some [] => match valOf T (opd L lr) M [] o.op with
    | some (v, r) => match o.dst with
      | some d => match Nat.blt d nt, freshR d lr with
        | true, true => match r with
          | some r => some ⟨.ops rest all (⟨d, [], v, r⟩ :: lr) :: k, (d, v) :: L, M⟩
          | none => some ⟨.ops rest all (⟨d, [], v, d⟩ :: lr) :: k, (d, v) :: L, M⟩
        | _, _ => none
      | none => none
    | none => match memOf T (opd L lr) M o.op with
      | some (some v, M') => match o.dst with
        | some d => match Nat.blt d nt, freshR d lr with
          | true, true => some ⟨.ops rest all (⟨d, [], v, d⟩ :: lr) :: k, (d, v) :: L, M'⟩
          | _, _ => none
        | none => none
      | some (none, M') => match o.dst, stAt (opd L lr) o.op with
        | none, some i => match wrOk i k with
          | true => some ⟨.ops rest all lr :: k, L, M'⟩
          | false => none
        | _, _ => none
      | none => none
  | some G => match valOf T (opd L lr) M G o.op with
    | some (v, r) => match o.dst with
      | some d => match Nat.blt d nt, freshR d lr, lookL L d with
        | true, true, none => match r with
          | some r => some ⟨.ops rest all (⟨d, G, v, r⟩ :: lr) :: k, L, M⟩
          | none => some ⟨.ops rest all (⟨d, G, v, d⟩ :: lr) :: k, L, M⟩
        | _, _, _ => none
      | none => none
    | none => none

def noOps : List Kt → Bool
  | .ops _ _ _ :: _ => false
  | .draw _ :: _ => false
  | _ => true

def toK (k : List Kt) (L : Fr) (M : List OB) : Option St :=
  match noOps k with
  | true => some ⟨k, L, M⟩
  | false => none

/-! ### Regions whose order is drawn -/

def lenL {α : Type} : List α → Nat
  | [] => 0
  | _ :: l => lenL l + 1

def fals : List Oper → List Bool
  | [] => []
  | _ :: l => false :: fals l

def isEnd : Op → Bool
  | .store _ _ _ => true
  | .mapUpdate _ _ _ _ => true
  | .entryStore _ _ _ _ => true
  | .insert _ _ _ _ => true
  | .call ⟨.builtin .append, _, _⟩ => true
  | .call ⟨.builtin .copy, _, _⟩ => true
  | _ => false

/-- It waits for all before it. -/
def barB (es : List Edge) : Nat → Bool
  | 0 => true
  | n + 1 => match waitsOn n es with
    | true => barB es n
    | false => false

/-- The block that an address of the region points into, if that can be seen at its start. -/
def chase (L : Fr) (all : List Oper) : Nat → Operand → Option Nat
  | 0, _ => none
  | n + 1, .tmp s => match lookL L s with
    | some (.ptr i _) => some i
    | _ => match all.find? (fun o => sameD s o.dst) with
      | some o => match o.op with
        | .fieldAddr _ x _ => chase L all n x
        | .move x => chase L all n x
        | _ => none
      | none => none
  | _, _ => none

def endsOf (L : Fr) (all : List Oper) : Nat → List Oper → List Nat × List Nat
  | _, [] => ([], [])
  | i, o :: r => match endsOf L all (i + 1) r with
    | (es, ms) => match isEnd o.op with
      | true => match barB o.after.toList i with
        | true => (i :: es, ms)
        | false => match o.op with
          | .store _ x _ => match chase L all 5 x with
            | some b => (es, b :: ms)
            | none => (i :: es, ms)
          | _ => (i :: es, ms)
      | false => (es, ms)

/-- The plan's next one, which only yields a value. -/
def floatP (T : List TyD) (nt : Nat) (all : List Oper) (listed : List Bool) (ends : List Nat) (n0 : Nat) (mask : List Nat) (V : View) (lr : List REnt) (n i : Nat) (p : List (Nat × Bool)) (k : List Kt) (L : Fr) (M : List OB) : Option St :=
  match nth all i with
  | some o => match guardC all lr o.guard with
    | some [] => match valOf T (opd L lr) (rdM mask 0 n0 M) [] o.op with
      | some (v, r) => match o.dst with
        | some d => match Nat.blt d nt, freshR d lr with
          | true, true => match r with
            | some r => some ⟨.draw ⟨all, setT listed i, n, ends, n0, mask, V, p, ⟨d, [], v, r⟩ :: lr⟩ :: k, (d, v) :: L, M⟩
            | none => some ⟨.draw ⟨all, setT listed i, n, ends, n0, mask, V, p, ⟨d, [], v, d⟩ :: lr⟩ :: k, (d, v) :: L, M⟩
          | _, _ => none
        | none => none
      | none => none
    | some G => match valOf T (opd L lr) (rdM mask 0 n0 M) G o.op with
      | some (v, r) => match o.dst with
        | some d => match Nat.blt d nt, freshR d lr, lookL L d with
          | true, true, none => match r with
            | some r => some ⟨.draw ⟨all, setT listed i, n, ends, n0, mask, V, p, ⟨d, G, v, r⟩ :: lr⟩ :: k, L, M⟩
            | none => some ⟨.draw ⟨all, setT listed i, n, ends, n0, mask, V, p, ⟨d, G, v, d⟩ :: lr⟩ :: k, L, M⟩
          | _, _, _ => none
        | none => none
      | none => none
    | none => none
  | none => none

def stepD (T : List TyD) (nt : Nat) (all : List Oper) (listed : List Bool) (n : Nat) (ends : List Nat) (n0 : Nat) (mask : List Nat) (V : View) (plan : List (Nat × Bool)) (lr : List REnt) (k : List Kt) (L : Fr) (M : List OB) : Option St :=
  match plan with
  | [] => match sameL all listed, rdy listed 0 all with
    | true, [] => toK k L M
    | _, _ => none
  | (i, true) :: p => match n with
    | n + 1 => floatP T nt all listed ends n0 mask V lr n i p k L M
    | 0 => none
  | (i, false) :: p => match n, nth all i with
    | n + 1, some o => some ⟨.ops [o] all lr :: .draw ⟨all, setT listed i, n, ends, n0, mask, V, p, lr⟩ :: k, L, M⟩
    | _, _ => none

def step (T : List TyD) (nt : Nat) (V : View) : St → Option St
  | ⟨.code .skip :: k, L, M⟩ => toK k L M
  | ⟨.code (.label _) :: k, L, M⟩ => toK k L M
  | ⟨.code (.seq a b) :: k, L, M⟩ => some ⟨.code a :: .code b :: k, L, M⟩
  | ⟨.code (.block id c) :: k, L, M⟩ => some ⟨.code c :: .inBlock id :: k, L, M⟩
  | ⟨.code (.exit id) :: k, L, M⟩ => match exitK id k with
    | some k' => toK k' L M
    | none => none
  | ⟨.code (.region _ ⟨ops⟩ false) :: k, L, M⟩ => match noOps k with
    | true => some ⟨.ops ops ops [] :: k, L, M⟩
    | false => none
  | ⟨.inBlock _ :: k, L, M⟩ => toK k L M
  | ⟨.ops [] _ lr :: .draw ⟨all, listed, n, ends, n0, mask, V, plan, _⟩ :: k, L, M⟩ => some ⟨.draw ⟨all, listed, n, ends, n0, mask, V, plan, lr⟩ :: k, L, M⟩
  | ⟨.draw ⟨all, listed, n, ends, n0, mask, V, plan, lr⟩ :: k, L, M⟩ => stepD T nt all listed n ends n0 mask V plan lr k L M
  | ⟨.ops [] _ _ :: k, L, M⟩ => toK k L M
  | ⟨.ops (o :: rest) all lr :: k, L, M⟩ => stepOp T nt o rest all lr k L M
  | _ => none

def run (T : List TyD) (nt : Nat) (V : View) : Nat → St → St
  | 0, s => s
  | n + 1, s => match step T nt V s with
    | some s' => run T nt V n s'
    | none => s

end Go.Proofs.Ytkbldnpifmjipaa
