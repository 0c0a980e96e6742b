/-
  Package keys: contracts of its functions, and of their references.
-/
import Derived.Test.YtpmghndhapmlnaaFj
import Derived.Test.YtpmghndhapmlnaaTy
namespace Go.Proofs.Ytpmghndhapmlnaa

def bodyOf (f : Func) : Code := match f.body with | some c => c | none => .skip

abbrev S (l : List UInt8) : Value := .string ⟨⟨l⟩⟩
abbrev I (n : Int) : Value := .int .i64 n

def keyB (c : Int) : Bool := decide (97 ≤ c) && decide (c ≤ 122) || decide (48 ≤ c) && decide (c ≤ 57) || c == 47 || c == 46 || c == 95 || c == 45
def bndB (c : Int) : Bool := decide (33 ≤ c) && decide (c ≤ 126)

theorem valid1_spec (c : Int) (V : View) : Spec Try.prog 31 [.int .u8 c] V fun _ v => v = .bool (keyB c) := by
  refine Spec.enter1 (T := tyT) Try.func31 rfl (by kernel_rfl) rfl rfl ?_
  refine Exec.run tyOk 200 rfl ?_
  exact Exec.ret tyOk rfl rfl rfl

theorem isBound1_spec (c : Int) (V : View) : Spec Try.prog 34 [.int .u8 c] V fun _ v => v = .bool (bndB c) := by
  refine Spec.enter1 (T := tyT) Try.func34 rfl (by kernel_rfl) rfl rfl ?_
  refine Exec.run tyOk 200 rfl ?_
  exact Exec.ret tyOk rfl rfl rfl

def consists (p : Int → Bool) (l : List UInt8) : Bool := decide (l.length ≤ 24) && l.all fun c => p c.toNat

theorem all_snoc (p : Int → Bool) (l : List UInt8) (i : Nat) (h : i < l.length) : (l.take (i + 1)).all (fun c => p c.toNat) = ((l.take i).all (fun c => p c.toNat) && p (byteAt l i)) := by
  rw [List.take_succ_eq_append_getElem h, List.all_append]
  simp only [byteAt, List.getElem?_eq_getElem h, Option.getD_some, List.all_cons, List.all_nil, Bool.and_true]

theorem all_false (p : Int → Bool) (l : List UInt8) (i : Nat) (h : i < l.length) (hp : p (byteAt l i) = false) : l.all (fun c => p c.toNat) = false := by
  rw [List.all_eq_false]
  refine ⟨l[i], by simp, ?_⟩
  simp [byteAt, h] at hp
  simp [hp]

theorem consists_spec (f : Nat) (p : Int → Bool) (l : List UInt8) (V : View) (hp : ∀ c V, Spec Try.prog f [.int .u8 c] V fun _ v => v = .bool (p c)) :
    Spec Try.prog 30 [S l, .func (.func f) #[] #[]] V fun _ v => v = .bool (consists p l) := by
  refine Spec.enter2 (T := tyT) Try.func30 rfl (by kernel_rfl) rfl rfl ?_
  refine Exec.run tyOk 200 rfl ?_
  refine Exec.cond rfl (fun h => ?_) (fun h => ?_)
  · refine Exec.run tyOk 200 rfl ?_
    refine Exec.ret tyOk rfl rfl ?_
    simp at h
    simp [retV, consists]
    omega
  · have h24 : l.length ≤ 24 := by simp at h; omega
    refine Exec.run tyOk 200 rfl ?_
    refine Exec.loopR (fun i : Nat => [(11, .v (I i)), (10, .v (I l.length)), (0, .v (S l)), (1, .v (.func (.func f) #[] #[]))])
      (fun i => i ≤ l.length ∧ (l.take i).all (fun c => p c.toNat) = true) (fun i => l.length - i) 0 ⟨rfl, rfl, rfl, rfl, trivial⟩ ⟨by omega, by simp⟩ ?_
    rintro i ⟨hi, hall⟩
    refine Exec.run tyOk 200 rfl ?_
    refine Exec.cond rfl (fun h => ?_) (fun h => ?_)
    · have hlt : i < l.length := by simpa using h
      refine Exec.run tyOk 200 rfl ?_
      refine Exec.idx tyOk rfl rfl ⟨by omega, by omega⟩ ?_
      refine Exec.callS _ rfl rfl (hp _ _) ?_
      refine Exec.run tyOk 200 rfl ?_
      refine Exec.cond rfl (fun h => ?_) (fun h => ?_)
      · refine Exec.run tyOk 200 rfl ?_
        refine Exec.ret tyOk rfl rfl ?_
        have hb : p (byteAt l i) = false := by simpa using h
        simp [retV, consists, all_false p l i hlt hb]
      · refine Exec.run tyOk 200 rfl ?_
        refine Exec.roundR (i + 1) ⟨look_int rfl (w64 (by omega) (by omega)), rfl, rfl, rfl, trivial⟩ (by omega) ⟨by omega, ?_⟩
        rw [all_snoc p l i hlt, hall]
        simpa using h
    · refine Exec.run tyOk 200 rfl ?_
      refine Exec.ret tyOk rfl rfl ?_
      have : i = l.length := by simp at h; omega
      subst this
      rw [List.take_length] at hall
      simp [retV, consists, hall, h24]

end Go.Proofs.Ytpmghndhapmlnaa
