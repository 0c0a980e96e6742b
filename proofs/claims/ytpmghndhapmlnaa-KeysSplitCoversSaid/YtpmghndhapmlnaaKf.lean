/-
  keys.Intersect and its reference; the reference of Prefix.
-/
import Derived.Test.YtpmghndhapmlnaaKe
namespace Go.Proofs.Ytpmghndhapmlnaa

theorem rPrefix_spec (l : List UInt8) (V : View) (h63 : l.length ≤ 1000) : Spec Try.prog 21 [S l] V fun _ v => v = prefV l := by
  refine Spec.enter1 (T := tyT) Try.func21 rfl (by kernel_rfl) rfl rfl ?_
  refine Exec.run tyOk 200 rfl ?_
  refine Exec.cond rfl (fun h => ?_) (fun h => ?_)
  · refine Exec.run tyOk 200 rfl ?_
    refine Exec.ret tyOk rfl rfl ?_
    have : (l == []) = true := h
    simp [prefV, this, retV]
  have hne : (l == []) = false := h
  refine Exec.run tyOk 200 rfl ?_
  refine Exec.callS _ rfl rfl (rValid_spec l V h63) ?_
  refine Exec.run tyOk 200 rfl ?_
  refine Exec.cond rfl (fun h => ?_) (fun h => ?_)
  · refine Exec.run tyOk 200 rfl ?_
    refine Exec.ret tyOk rfl rfl ?_
    have : keyL l = false := by simpa using h
    simp [prefV, hne, this, retV]
  have hk : keyL l = true := by simpa using h
  obtain ⟨h1, h24⟩ := keyL_len hk
  have hw : IntKind.i64.wrap ((l.length : Int) - 1) = ((l.length - 1 : Nat) : Int) := by rw [w64 (by omega) (by omega)]; omega
  refine Exec.run tyOk 200 rfl ?_
  refine Exec.idx tyOk rfl rfl (by rw [hw]; exact ⟨by omega, by omega⟩) ?_
  refine Exec.run tyOk 200 rfl ?_
  refine Exec.draws tyOk [(0, true), (1, true), (2, true), (3, true), (4, true), (5, true), (6, true), (7, false), (8, false), (9, true), (10, true), (11, false), (12, false)] rfl (by kernel_rfl) ?_
  refine Exec.run tyOk 200 rfl ?_
  refine Exec.fssl tyOk (r := l.take (l.length - 1)) rfl rfl rfl (by rw [hw]; simp only [loN, hiN]; exact ⟨by omega, by omega, by omega⟩) (by simp only [loN, hiN]; rw [hw]; simp) ?_
  refine Exec.run tyOk 200 rfl ?_
  have hcell : ∀ x : Int, x = IntKind.i64.wrap ((l.length : Int) - 1) → [SV.v (.int .u8 (IntKind.u8.wrap (byteAt l x.toNat + 1)))] = [lastI l].map byteV := by
    intro x hx
    rw [hx, hw, Int.toNat_natCast, lastI_eq]
    rfl
  have hres : prefV l = .tuple ⟨[RV l (nextK l), E 0]⟩ := by simp [prefV, hne, hk]
  have hlen : (l.take (l.length - 1)).length + [lastI l].length ≤ 9223372036854775807 := by simp; omega
  refine Exec.b2s tyOk rfl rfl rfl rfl rfl rfl rfl rfl rfl (hcell _ rfl) ?_
  refine Exec.run tyOk 200 rfl ?_
  refine Exec.fcat rfl rfl rfl hlen ?_
  refine Exec.run tyOk 200 rfl ?_
  refine Exec.ret tyOk rfl rfl ?_
  rw [hres]
  rfl

def loK (a c : List UInt8) : List UInt8 := if sLt a c then c else a
def hiB (b d : List UInt8) : Bool := b == [] || d != [] && sLt d b
def hiK (b d : List UInt8) : List UInt8 := if hiB b d then d else b

def interV (a b c d : List UInt8) : Value :=
  if !rngL a b || !rngL c d then .tuple ⟨[RV [] [], .bool false]⟩ else if rngL (loK a c) (hiK b d) then .tuple ⟨[RV (loK a c) (hiK b d), .bool true]⟩ else .tuple ⟨[RV [] [], .bool false]⟩

theorem intersect_spec (a b c d : List UInt8) (V : View) : Spec Try.prog 26 [RV a b, RV c d] V fun _ v => v = interV a b c d := by
  refine Spec.enter2 (T := tyT) Try.func26 rfl (by kernel_rfl) rfl rfl ?_
  refine Exec.run tyOk 200 rfl ?_
  refine Exec.callS _ rfl rfl (validRange_spec a b V) ?_
  refine Exec.run tyOk 200 rfl ?_
  refine Exec.callS _ rfl rfl (fun _ => validRange_spec c d V) ?_
  refine Exec.run tyOk 200 rfl ?_
  refine Exec.cond rfl (fun h => ?_) (fun h => ?_)
  · refine Exec.run tyOk 200 rfl ?_
    refine Exec.ret tyOk rfl rfl ?_
    have : (!rngL a b || !rngL c d) = true := h
    simp only [interV, this, if_true]
    rfl
  have h0 : (!rngL a b || !rngL c d) = false := h
  refine Exec.run tyOk 200 rfl ?_
  refine Exec.smax rfl rfl rfl rfl ?_
  refine Exec.run tyOk 200 rfl ?_
  refine Exec.cond rfl (fun h => ?_) (fun h => ?_)
  · have hb : hiB b d = true := h
    refine Exec.run tyOk 200 rfl ?_
    refine Exec.callS _ rfl rfl (validRange_spec (loK a c) d V) ?_
    refine Exec.run tyOk 200 rfl ?_
    refine Exec.cond rfl (fun h => ?_) (fun h => ?_)
    · refine Exec.run tyOk 200 rfl ?_
      refine Exec.ret tyOk rfl rfl ?_
      have hr : rngL (loK a c) d = false := by simpa using h
      simp only [interV, hiK, h0, hb, hr, if_true]
      rfl
    · refine Exec.run tyOk 200 rfl ?_
      refine Exec.ret tyOk rfl rfl ?_
      have hr : rngL (loK a c) d = true := by simpa using h
      simp only [interV, hiK, h0, hb, hr, if_true]
      rfl
  · have hb : hiB b d = false := h
    refine Exec.run tyOk 200 rfl ?_
    refine Exec.callS _ rfl rfl (validRange_spec (loK a c) b V) ?_
    refine Exec.run tyOk 200 rfl ?_
    refine Exec.cond rfl (fun h => ?_) (fun h => ?_)
    · refine Exec.run tyOk 200 rfl ?_
      refine Exec.ret tyOk rfl rfl ?_
      have hr : rngL (loK a c) b = false := by simpa using h
      simp only [interV, hiK, h0, hb, hr, Bool.false_eq_true, if_false]
      rfl
    · refine Exec.run tyOk 200 rfl ?_
      refine Exec.ret tyOk rfl rfl ?_
      have hr : rngL (loK a c) b = true := by simpa using h
      simp only [interV, hiK, h0, hb, hr, Bool.false_eq_true, if_false]
      rfl

end Go.Proofs.Ytpmghndhapmlnaa
