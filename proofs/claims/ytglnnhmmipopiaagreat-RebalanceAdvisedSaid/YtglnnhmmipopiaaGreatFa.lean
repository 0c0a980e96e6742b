/-
  A FRAMEWORK FOR PROOFS ABOUT CALLS (part a): plain definitions. A symbolic state of one call (what its slots hold, which memory it owns), and a function 'step' that runs the code over it.
  Conditions: none; nothing of the program is assumed here.
-/
import Derived.WalkKit
import Derived.WalkSpells
import Derived.WalkLawsBesides
set_option linter.all false
namespace Go.Proofs.YtglnnhmmipopiaaGreat

def nth {α : Type} : List α → Nat → Option α
  | [], _ => none
  | a :: _, 0 => some a
  | _ :: l, n + 1 => nth l n

theorem nth_eq {α : Type} : ∀ (l : List α) (n : Nat), nth l n = l[n]?
  | [], n => by simp [nth]
  | a :: l, 0 => rfl
  | a :: l, n + 1 => by simp [nth, nth_eq l n]

/-- What a type is, as far as the steps ask. -/
inductive UD where
  | other
  | bool
  | str
  | int (k : IntKind)
  | ptr (e : Nat)
  | slice (e : Nat)
  | arr (n e : Nat)
  | struct (fs : List (Nat × Nat))

structure TyD where
  size : Nat
  bytes : Nat
  und : UD
  zero : List Value
  eqok : Bool

def UD.agg : UD → Bool
  | .arr _ _ => true
  | .struct _ => true
  | _ => false

def udOf : TypeDesc → UD
  | .bool => .bool
  | .string => .str
  | .int k => .int k
  | .pointer e => .ptr e
  | .slice e => .slice e
  | .array n e => .arr n e
  | .struct fs => .struct (fs.toList.map fun f => (f.offset, f.type))
  | _ => .other

/-- A struct that can be compared field by field. -/
def eqOk (P : Program) (t : Nat) : TypeDesc → Bool
  | .struct fs => !P.stoodInHeld t && !P.eqGuardType P.depth t && fs.toList.all fun f => f.name != "_"
  | _ => true

def tyD (P : Program) (t : Nat) : Option TyD :=
  match P.info? t, P.underlying t with
  | some i, some d =>
    match i.zero with
    | some z => some ⟨i.size, i.bytes, udOf d, z.cells.toList, eqOk P t d⟩
    | none => none
  | _, _ => none

def tyDs (P : Program) : List TyD := (List.range P.types.size).map fun t => (tyD P t).getD ⟨0, 0, .other, [], false⟩

/-- The table tells the truth about the program's types. -/
def TOk (P : Program) (T : List TyD) : Prop := (∀ t d, nth T t = some d → d.size ≠ 0 → tyD P t = some d) ∧ P.follows .mixedOrders = true

theorem tok_of (P : Program) (T : List TyD) (h : tyDs P = T) (hm : P.follows .mixedOrders = true) : TOk P T := by
  subst h
  refine ⟨?_, hm⟩
  intro t d h hs
  rw [nth_eq, tyDs, List.getElem?_map] at h
  cases hr : (List.range P.types.size)[t]? with
  | none => simp [hr] at h
  | some x =>
    have hx : x = t := by
      obtain ⟨h1, h2⟩ := List.getElem?_eq_some_iff.1 hr
      simpa using h2.symm
    subst hx
    rw [hr] at h
    cases ht : tyD P x with
    | none => simp [ht] at h; rw [← h] at hs; simp at hs
    | some y => simp [ht] at h; rw [h]

/-! ### Symbolic values, frames, memory -/

inductive SV where
  | v (x : Value)
  | ptr (i off : Nat)
  | slc (i off len cap : Nat)
  | el (a : Option Addr) (off : Nat)

inductive OB where
  | gone
  | blk (cs : List SV) (ty : Nat)
  | row (x : Value) (cs : List Value) (e sz : Nat)

abbrev Fr := List (Nat × SV)

structure REnt where
  s : Nat
  c : List (Nat × Bool)
  x : SV
  r : Nat

def lookL : Fr → Nat → Option SV
  | [], _ => none
  | (n, x) :: l, s => match Nat.beq n s with
    | true => some x
    | false => lookL l s

def lookR : List REnt → Nat → Option REnt
  | [], _ => none
  | e :: l, s => match Nat.beq e.s s with
    | true => some e
    | false => lookR l s

def beqB : Bool → Bool → Bool
  | true, true => true
  | false, false => true
  | _, _ => false

def memC (a : Nat × Bool) : List (Nat × Bool) → Bool
  | [] => false
  | b :: l => match Nat.beq a.1 b.1 with
    | true => match beqB a.2 b.2 with
      | true => true
      | false => memC a l
    | false => memC a l

def subC : List (Nat × Bool) → List (Nat × Bool) → Bool
  | [], _ => true
  | a :: l, G => match memC a G with
    | true => subC l G
    | false => false

def freshC (d : Nat) : List (Nat × Bool) → Bool
  | [] => true
  | a :: l => match Nat.beq a.1 d with
    | true => false
    | false => freshC d l

/-- Slot d is named nowhere in the region's own entries. -/
def freshR (d : Nat) : List REnt → Bool
  | [] => true
  | e :: l => match Nat.beq e.s d with
    | true => false
    | false => match Nat.beq e.r d with
      | true => false
      | false => match freshC d e.c with
        | true => freshR d l
        | false => false

/-- An operand: under which conditions it is there, its value, the slot that it stands for. -/
def opd (L : Fr) (lr : List REnt) : Operand → Option (List (Nat × Bool) × SV × Option Nat)
  | .const v => some ([], .v v, none)
  | .func f => some ([], .v (.func (.func f) #[] #[]), none)
  | .global g => some ([], .v (.pointer (some ⟨g, 0, none⟩)), none)
  | .tmp s => match lookR lr s with
    | some ⟨_, c, x, r⟩ => some (c, x, some r)
    | none => match lookL L s with
      | some v => some ([], v, none)
      | none => none

/-- How operands are looked up. -/
abbrev Look := Operand → Option (List (Nat × Bool) × SV × Option Nat)

def ev (od : Look) (G : List (Nat × Bool)) (x : Operand) : Option SV :=
  match od x with
  | some (c, v, _) => match subC c G with
    | true => some v
    | false => none
  | none => none

def guardC (all : List Oper) (lr : List REnt) : Option (Nat × Bool) → Option (List (Nat × Bool))
  | none => some []
  | some (j, want) => match nth all j with
    | some o => match o.dst with
      | some s => match lookR lr s with
        | some ⟨_, c, _, r⟩ => some ((r, want) :: c)
        | none => none
      | none => none
    | none => none

/-! ### Plain operations -/

def kEq : IntKind → IntKind → Bool
  | .i8, .i8 => true
  | .i16, .i16 => true
  | .i32, .i32 => true
  | .i64, .i64 => true
  | .u8, .u8 => true
  | .u16, .u16 => true
  | .u32, .u32 => true
  | .u64, .u64 => true
  | _, _ => false

/-- The order of strings. -/
def sLt (a b : List UInt8) : Bool := Op.bytesLess a b

def intV (op : BinOp) (k : IntKind) (x y : Int) : Option Value :=
  match op with
  | .add => some (.int k (k.wrap (x + y)))
  | .sub => some (.int k (k.wrap (x - y)))
  | .mul => some (.int k (k.wrap (x * y)))
  | .eql => some (.bool (x == y))
  | .neq => some (.bool (x != y))
  | .lss => some (.bool (decide (x < y)))
  | .leq => some (.bool (decide (x ≤ y)))
  | .gtr => some (.bool (decide (y < x)))
  | .geq => some (.bool (decide (y ≤ x)))
  | .and => some (.int k (bits .and k x y))
  | .or => some (.int k (bits .or k x y))
  | .xor => some (.int k (bits .xor k x y))
  | .andNot => some (.int k (bits .andNot k x y))
  | _ => none

def strV (op : BinOp) (x y : List UInt8) : Option Value :=
  match op with
  | .eql => some (.bool (x == y))
  | .neq => some (.bool (x != y))
  | .lss => some (.bool (sLt x y))
  | .leq => some (.bool (!sLt y x))
  | .gtr => some (.bool (sLt y x))
  | .geq => some (.bool (!sLt x y))
  | _ => none

/-- The cells from 'off' on, n of them. -/
def takeN {α : Type} : List α → Nat → Nat → Option (List α)
  | _, _, 0 => some []
  | [], _, _ + 1 => none
  | a :: l, 0, n + 1 => match takeN l 0 n with
    | some r => some (a :: r)
    | none => none
  | _ :: l, o + 1, n + 1 => takeN l o (n + 1)

def partL (off : Nat) (fd : TyD) (cs : List Value) : Option Value :=
  match fd.und.agg with
  | true => match takeN cs off fd.size with
    | some l => some (.agg ⟨l⟩)
    | none => none
  | false => nth cs off

/-- Two structs, field by field. -/
def eqFs (T : List TyD) (f : Nat → Value → Value → Option Bool) (xs ys : List Value) : List (Nat × Nat) → Option Bool
  | [] => some true
  | (off, ft) :: r => match nth T ft with
    | some fd => match fd.size with
      | 0 => none
      | _ + 1 => match partL off fd xs, partL off fd ys with
        | some a, some b => match f ft a b, eqFs T f xs ys r with
          | some p, some q => some (p && q)
          | _, _ => none
        | _, _ => none
    | none => none

def eqP (T : List TyD) : Nat → Nat → Value → Value → Option Bool
  | 0, _, _, _ => none
  | n + 1, t, a, b => match nth T t with
    | some d => match d.size with
      | 0 => none
      | _ + 1 => match d.und, a, b with
        | .bool, .bool p, .bool q => some (p == q)
        | .int _, .int k x, .int k' y => match kEq k k' with
          | true => some (x == y)
          | false => none
        | .str, .string ⟨⟨x⟩⟩, .string ⟨⟨y⟩⟩ => some (x == y)
        | .struct fs, .agg ⟨xs⟩, .agg ⟨ys⟩ => match d.eqok with
          | true => eqFs T (eqP T n) xs ys fs
          | false => none
        | _, _, _ => none
    | none => none

def eqV (T : List TyD) (op : BinOp) (t : Nat) (a b : Value) : Option Value :=
  match op with
  | .eql => match eqP T 9 t a b with
    | some r => some (.bool r)
    | none => none
  | .neq => match eqP T 9 t a b with
    | some r => some (.bool (!r))
    | none => none
  | _ => none

def binV (T : List TyD) (op : BinOp) (t : Nat) (a b : Value) : Option Value :=
  match a, b with
  | .int k x, .int k' y => match kEq k k' with
    | true => intV op k x y
    | false => none
  | .string ⟨⟨x⟩⟩, .string ⟨⟨y⟩⟩ => strV op x y
  | .bool x, .bool y => eqV T op t (.bool x) (.bool y)
  | .agg xs, .agg ys => eqV T op t (.agg xs) (.agg ys)
  | _, _ => none

def lenV : UD → SV → Option Value
  | .str, .v (.string ⟨⟨l⟩⟩) => some (.int .i64 l.length)
  | .slice _, .v (.slice _ n _) => some (.int .i64 n)
  | .slice _, .slc _ _ n _ => some (.int .i64 n)
  | _, _ => none

def capV : UD → SV → Option Value
  | .slice _, .v (.slice _ _ c) => some (.int .i64 c)
  | .slice _, .slc _ _ _ c => some (.int .i64 c)
  | _, _ => none

/-- 'c ? a : b', a truth value chosen by another one. -/
def pickSV (x : Bool) (oa ob : Operand) (a b : SV) : Option SV :=
  match a, b with
  | .v (.bool p), .v (.bool q) => match oa with
    | .const (.bool true) => some (.v (.bool (x || q)))
    | _ => match ob with
      | .const (.bool false) => some (.v (.bool (x && p)))
      | _ => some (.v (.bool (if x then p else q)))
  | _, _ => none

def vals : List SV → Option (List Value)
  | [] => some []
  | .v x :: l => match vals l with
    | some r => some (x :: r)
    | none => none
  | _ => none

def cellsSV : SV → List SV
  | .v (.agg ⟨cs⟩) => cs.map .v
  | x => [x]

def putN {α : Type} : List α → Nat → List α → Option (List α)
  | l, 0, [] => some l
  | [], _, _ => none
  | _ :: l, 0, v :: vs => match putN l 0 vs with
    | some r => some (v :: r)
    | none => none
  | a :: l, o + 1, vs => match putN l o vs with
    | some r => some (a :: r)
    | none => none

def loadSV (d : TyD) (cs : List SV) (o : Nat) : Option SV :=
  match d.und.agg with
  | true => match takeN cs o d.size with
    | some l => match vals l with
      | some r => some (.v (.agg ⟨r⟩))
      | none => none
    | none => none
  | false => nth cs o

def fieldV (T : List TyD) (t f : Nat) : Option (Nat × TyD) :=
  match nth T t with
  | some d => match d.size with
    | 0 => none
    | _ + 1 => match d.und with
      | .struct fs => match nth fs f with
        | some (off, ft) => match nth T ft with
          | some fd => match fd.size with
            | 0 => none
            | _ + 1 => some (off, fd)
          | none => none
        | none => none
      | _ => none
  | none => none

def addrAt (off : Nat) : SV → Option SV
  | .ptr i o => some (.ptr i (o + off))
  | .el a o => some (.el a (o + off))
  | .v (.pointer (some ⟨b, o, none⟩)) => some (.v (.pointer (some ⟨b, o + off, none⟩)))
  | _ => none

def partV (off : Nat) (fd : TyD) : SV → Option SV
  | .v (.agg ⟨cs⟩) => match partL off fd cs with
    | some x => some (.v x)
    | none => none
  | _ => none

def pv (T : List TyD) (op : Op) (e : Operand → Option SV) : Option SV :=
  match op with
  | .move x => e x
  | .assign x => e x
  | .binOp op t x y _ => match e x, e y with
    | some (.v a), some (.v b) => match binV T op t a b with
      | some r => some (.v r)
      | none => none
    | _, _ => none
  | .unOp .not _ x => match e x with
    | some (.v (.bool b)) => some (.v (.bool (!b)))
    | _ => none
  | .fieldAddr t x f => match fieldV T t f with
    | some (off, _) => match e x with
      | some a => addrAt off a
      | none => none
    | none => none
  | .field t x f => match fieldV T t f with
    | some (off, fd) => match e x with
      | some a => partV off fd a
      | none => none
    | none => none
  | .extract x i => match e x with
    | some (.v (.tuple ⟨l⟩)) => match nth l i with
      | some y => some (.v y)
      | none => none
    | _ => none
  | .call ⟨.builtin .len, ⟨[x]⟩, ⟨[t]⟩⟩ => match nth T t with
    | some d => match d.size with
      | 0 => none
      | _ + 1 => match e x with
        | some a => match lenV d.und a with
          | some r => some (.v r)
          | none => none
        | none => none
    | none => none
  | .call ⟨.builtin .cap, ⟨[x]⟩, ⟨[t]⟩⟩ => match nth T t with
    | some d => match d.size with
      | 0 => none
      | _ + 1 => match e x with
        | some a => match capV d.und a with
          | some r => some (.v r)
          | none => none
        | none => none
    | none => none
  | .call ⟨.builtin .max, ⟨[x, y]⟩, _⟩ => match e x, e y with
    | some (.v (.int k a)), some (.v (.int k' b)) => match kEq k k' with
      | true => some (.v (.int k (max a b)))
      | false => none
    | _, _ => none
  | .call ⟨.builtin .min, ⟨[x, y]⟩, _⟩ => match e x, e y with
    | some (.v (.int k a)), some (.v (.int k' b)) => match kEq k k' with
      | true => some (.v (.int k (min a b)))
      | false => none
    | _, _ => none
  | .convert src dst x => match nth T src, nth T dst with
    | some s, some d => match s.size, d.size with
      | _ + 1, _ + 1 => match d.und, e x with
        | .int k, some (.v (.int _ n)) => some (.v (.int k (k.wrap n)))
        | .str, some (.v (.string b)) => some (.v (.string b))
        | _, _ => none
      | _, _ => none
    | _, _ => none
  | .unOp .neg _ x => match e x with
    | some (.v (.int k a)) => some (.v (.int k (k.wrap (0 - a))))
    | _ => none
  | _ => none

end Go.Proofs.YtglnnhmmipopiaaGreat
