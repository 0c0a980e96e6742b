/-
  strings.Clone; package keys and its references: contracts.
-/
import Derived.Test.YtpmghndhapmlnaaKa
import Derived.Test.YtpmghndhapmlnaaFm
namespace Go.Proofs.Ytpmghndhapmlnaa

theorem sClone0_spec (l : List UInt8) (V : View) (h48 : l.length ≤ 281474976710656) : Spec Try.prog 35 [S l] V fun _ v => v = S l := by
  refine Spec.enter1 (T := tyT) Try.func35 rfl (by kernel_rfl) rfl rfl ?_
  refine Exec.run tyOk 200 rfl ?_
  refine Exec.cond rfl (fun h => ?_) (fun h => ?_)
  · refine Exec.run tyOk 200 rfl ?_
    refine Exec.ret tyOk rfl rfl ?_
    have : l = [] := by simpa using h
    subst this
    rfl
  · have h0 : l ≠ [] := by simpa using h
    refine Exec.run tyOk 200 rfl ?_
    refine Exec.mkb tyOk rfl rfl rfl rfl rfl h48 rfl ?_
    refine Exec.run tyOk 200 rfl ?_
    refine Exec.cpb tyOk rfl rfl rfl rfl rfl rfl rfl rfl (by simp) rfl rfl ?_
    refine Exec.run tyOk 200 rfl ?_
    have hpos : 0 < l.length := List.length_pos_iff.2 h0
    refine Exec.iaO tyOk rfl rfl rfl rfl rfl rfl rfl rfl rfl ⟨by omega, by omega⟩ ?_
    refine Exec.run tyOk 200 rfl ?_
    refine Exec.ust tyOk rfl rfl rfl rfl rfl rfl rfl rfl rfl rfl h0 (by omega) rfl rfl ?_
    refine Exec.run tyOk 200 rfl ?_
    exact Exec.ret tyOk rfl rfl rfl

theorem sClone_spec (l : List UInt8) (V : View) (h48 : l.length ≤ 281474976710656) : Spec Try.prog 32 [S l] V fun _ v => v = S l := by
  refine Spec.enter1 (T := tyT) Try.func32 rfl (by kernel_rfl) rfl rfl ?_
  refine Exec.run tyOk 200 rfl ?_
  refine Exec.callS _ rfl rfl (sClone0_spec l V h48) ?_
  refine Exec.run tyOk 200 rfl ?_
  exact Exec.ret tyOk rfl rfl rfl

def keyL (l : List UInt8) : Bool := l != [] && consists keyB l

theorem valid_spec (l : List UInt8) (V : View) : Spec Try.prog 14 [S l] V fun _ v => v = .bool (keyL l) := by
  refine Spec.enter1 (T := tyT) Try.func14 rfl (by kernel_rfl) rfl rfl ?_
  refine Exec.run tyOk 200 rfl ?_
  refine Exec.callS _ rfl rfl (fun _ => consists_spec _ keyB l V valid1_spec) ?_
  refine Exec.run tyOk 200 rfl ?_
  exact Exec.ret tyOk rfl rfl rfl

def bndL (l : List UInt8) : Bool := consists bndB l

theorem isBound_spec (l : List UInt8) (V : View) : Spec Try.prog 28 [S l] V fun _ v => v = .bool (bndL l) := by
  refine Spec.enter1 (T := tyT) Try.func28 rfl (by kernel_rfl) rfl rfl ?_
  refine Exec.run tyOk 200 rfl ?_
  refine Exec.callS _ rfl rfl (consists_spec _ bndB l V isBound1_spec) ?_
  refine Exec.run tyOk 200 rfl ?_
  exact Exec.ret tyOk rfl rfl rfl

abbrev RV (a b : List UInt8) : Value := .agg ⟨[S a, S b]⟩

def rngL (a b : List UInt8) : Bool := bndL a && bndL b && (b == [] || sLt a b)

theorem validRange_spec (a b : List UInt8) (V : View) : Spec Try.prog 16 [RV a b] V fun _ v => v = .bool (rngL a b) := by
  refine Spec.enter1 (T := tyT) Try.func16 rfl (by kernel_rfl) rfl rfl ?_
  refine Exec.run tyOk 200 rfl ?_
  refine Exec.callS _ rfl rfl (isBound_spec a V) ?_
  refine Exec.run tyOk 200 rfl ?_
  refine Exec.callS _ rfl rfl (fun _ => isBound_spec b V) ?_
  refine Exec.run tyOk 200 rfl ?_
  exact Exec.ret tyOk rfl rfl rfl

def inL2 (a b k : List UInt8) : Bool := rngL a b && !sLt k a && (b == [] || sLt k b)

theorem contains_spec (a b k : List UInt8) (V : View) : Spec Try.prog 18 [RV a b, S k] V fun _ v => v = .bool (inL2 a b k) := by
  refine Spec.enter2 (T := tyT) Try.func18 rfl (by kernel_rfl) rfl rfl ?_
  refine Exec.run tyOk 200 rfl ?_
  refine Exec.callS _ rfl rfl (validRange_spec a b V) ?_
  refine Exec.run tyOk 200 rfl ?_
  exact Exec.ret tyOk rfl rfl rfl

def covL (a b c d : List UInt8) : Bool := if rngL c d then rngL a b && !sLt c a && (b == [] || d != [] && !sLt b d) else true

theorem covers_spec (a b c d : List UInt8) (V : View) : Spec Try.prog 22 [RV a b, RV c d] V fun _ v => v = .bool (covL a b c d) := by
  refine Spec.enter2 (T := tyT) Try.func22 rfl (by kernel_rfl) rfl rfl ?_
  refine Exec.run tyOk 200 rfl ?_
  refine Exec.callS _ rfl rfl (validRange_spec c d V) ?_
  refine Exec.run tyOk 200 rfl ?_
  refine Exec.cond rfl (fun h => ?_) (fun h => ?_)
  · refine Exec.run tyOk 200 rfl ?_
    refine Exec.ret tyOk rfl rfl ?_
    have : rngL c d = false := by simpa using h
    simp [covL, this, retV]
  · refine Exec.run tyOk 200 rfl ?_
    refine Exec.callS _ rfl rfl (validRange_spec a b V) ?_
    refine Exec.run tyOk 200 rfl ?_
    refine Exec.ret tyOk rfl rfl ?_
    have : rngL c d = true := by simpa using h
    simp [covL, this, retV]

def splBad (a b t : List UInt8) : Bool := !rngL a b || !bndL t || !sLt a t || b != [] && !sLt t b

abbrev E (n : Int) : Value := .int .i64 n

def splV (a b t : List UInt8) : Value := if splBad a b t then .tuple ⟨[RV [] [], RV [] [], E 1]⟩ else .tuple ⟨[RV a t, RV t b, E 0]⟩

theorem split_spec (a b t : List UInt8) (V : View) : Spec Try.prog 12 [RV a b, S t] V fun _ v => v = splV a b t := by
  refine Spec.enter2 (T := tyT) Try.func12 rfl (by kernel_rfl) rfl rfl ?_
  refine Exec.run tyOk 200 rfl ?_
  refine Exec.callS _ rfl rfl (validRange_spec a b V) ?_
  refine Exec.run tyOk 200 rfl ?_
  refine Exec.callS _ rfl rfl (fun _ => isBound_spec t V) ?_
  refine Exec.run tyOk 200 rfl ?_
  refine Exec.cond rfl (fun h => ?_) (fun h => ?_)
  · refine Exec.run tyOk 200 rfl ?_
    refine Exec.ret tyOk rfl rfl ?_
    have : splBad a b t = true := h
    simp [splV, this, retV]
  · refine Exec.run tyOk 200 rfl ?_
    refine Exec.draws tyOk [(0, true), (1, true), (2, true), (3, true), (4, true), (5, true), (6, true), (7, true), (8, false), (9, false), (10, false)] rfl (by kernel_rfl) ?_
    refine Exec.run tyOk 200 rfl ?_
    refine Exec.ret tyOk rfl rfl ?_
    have : splBad a b t = false := h
    simp [splV, this, retV]

end Go.Proofs.Ytpmghndhapmlnaa
