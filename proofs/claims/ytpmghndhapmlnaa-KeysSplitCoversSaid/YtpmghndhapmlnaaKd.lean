/-
  keys.Prefix and its reference; keys.Intersect and its reference.
-/
import Derived.Test.YtpmghndhapmlnaaKc
namespace Go.Proofs.Ytpmghndhapmlnaa

theorem Exec.pick2 {C : Ctx} {all : List Oper} {listed : List Bool} {ends : List Nat} {n0 : Nat} {mask : List Nat} {V1 : View} {lr : List REnt} {n n' i j : Nat} {oi oj : Oper} {k : List Kt} {L : Fr} {M : List OB} {V : View} (p q : List (Nat × Bool)) (hn : n' = n + 1) (hr : rdy listed 0 all = [i, j]) (hi : nth all i = some oi) (hj : nth all j = some oj)
    (hs : sameL all listed = true) (hp : planOk all ends n (setT listed i) p = true) (hq : planOk all ends n (setT listed j) q = true)
    (h1 : Exec C ⟨.ops [oi] all lr :: .draw ⟨all, setT listed i, n, ends, n0, mask, V1, p, lr⟩ :: k, L, M⟩ V)
    (h2 : Exec C ⟨.ops [oj] all lr :: .draw ⟨all, setT listed j, n, ends, n0, mask, V1, q, lr⟩ :: k, L, M⟩ V) : Exec C ⟨.draw ⟨all, listed, n', ends, n0, mask, V1, [], lr⟩ :: k, L, M⟩ V := by
  subst hn
  refine Exec.pick (D := ⟨all, listed, n + 1, ends, n0, mask, V1, [], lr⟩) hs rfl (by simp only; rw [hr]; simp) fun x hx o ho => ?_
  simp only at hx ho ⊢
  rw [hr] at hx
  simp only [List.mem_cons, List.not_mem_nil, or_false] at hx
  rcases hx with rfl | rfl
  · rw [hi] at ho; simp only [Option.some.injEq] at ho; subst ho; exact ⟨p, hp, h1⟩
  · rw [hj] at ho; simp only [Option.some.injEq] at ho; subst ho; exact ⟨q, hq, h2⟩

/-- The last byte, raised by one. -/
def lastI (l : List UInt8) : UInt8 := (l[l.length - 1]?.getD 0) + 1
def nextK (l : List UInt8) : List UInt8 := l.take (l.length - 1) ++ [lastI l]

theorem lastI_eq (l : List UInt8) : IntKind.u8.wrap (byteAt l (l.length - 1) + 1) = ((lastI l).toNat : Int) := by
  have : ∀ x : Int, IntKind.u8.wrap x = x % 256 := by intro x; simp [IntKind.wrap, IntKind.signed, IntKind.bits]
  rw [this]
  simp only [byteAt, lastI, UInt8.toNat_add]
  simp

def prefV (l : List UInt8) : Value :=
  if l == [] then .tuple ⟨[RV [] [], E 0]⟩ else if keyL l then .tuple ⟨[RV l (nextK l), E 0]⟩ else .tuple ⟨[RV [] [], E 1]⟩

theorem keyL_len {l : List UInt8} (h : keyL l = true) : 1 ≤ l.length ∧ l.length ≤ 24 := by
  simp only [keyL, consists, Bool.and_eq_true, decide_eq_true_eq] at h
  refine ⟨?_, h.2.1⟩
  cases l with
  | nil => simp at h
  | cons c l => simp

set_option maxHeartbeats 4000000 in
theorem prefix_spec (l : List UInt8) (V : View) : Spec Try.prog 20 [S l] V fun _ v => v = prefV l := by
  refine Spec.enter1 (T := tyT) Try.func20 rfl (by kernel_rfl) rfl rfl ?_
  refine Exec.run tyOk 200 rfl ?_
  refine Exec.cond rfl (fun h => ?_) (fun h => ?_)
  · refine Exec.run tyOk 200 rfl ?_
    refine Exec.ret tyOk rfl rfl ?_
    have : (l == []) = true := h
    simp [prefV, this, retV]
  have hne : (l == []) = false := h
  refine Exec.run tyOk 200 rfl ?_
  refine Exec.callS _ rfl rfl (valid_spec l V) ?_
  refine Exec.run tyOk 200 rfl ?_
  refine Exec.cond rfl (fun h => ?_) (fun h => ?_)
  · refine Exec.run tyOk 200 rfl ?_
    refine Exec.ret tyOk rfl rfl ?_
    have : keyL l = false := by simpa using h
    simp [prefV, hne, this, retV]
  have hk : keyL l = true := by simpa using h
  obtain ⟨h1, h24⟩ := keyL_len hk
  have hw : IntKind.i64.wrap ((l.length : Int) - 1) = ((l.length - 1 : Nat) : Int) := by rw [w64 (by omega) (by omega)]; omega
  refine Exec.run tyOk 200 rfl ?_
  refine Exec.draws tyOk [(0, true), (2, true), (3, true), (4, true), (5, true), (6, true), (7, true), (8, true)] rfl (by kernel_rfl) ?_
  refine Exec.run tyOk 200 rfl ?_
  refine Exec.fssl tyOk (r := l.take (l.length - 1)) rfl rfl rfl (by rw [hw]; simp only [loN, hiN]; exact ⟨by omega, by omega, by omega⟩) (by simp only [loN, hiN]; rw [hw]; simp) ?_
  refine Exec.run tyOk 200 rfl ?_
  refine Exec.fidx tyOk rfl rfl rfl (by rw [hw]; exact ⟨by omega, by omega⟩) ?_
  refine Exec.run tyOk 200 rfl ?_
  have hcell : ∀ x : Int, x = IntKind.i64.wrap ((l.length : Int) - 1) → [SV.v (.int .u8 (IntKind.u8.wrap (byteAt l x.toNat + 1)))] = [lastI l].map byteV := by
    intro x hx
    rw [hx, hw, Int.toNat_natCast, lastI_eq]
    rfl
  have hres : prefV l = .tuple ⟨[RV l (nextK l), E 0]⟩ := by simp [prefV, hne, hk]
  have hlen : (l.take (l.length - 1)).length + [lastI l].length ≤ 9223372036854775807 := by simp; omega
  refine Exec.pick2 (i := 1) (j := 9) [(9, false), (10, false), (11, true), (12, true), (13, false), (14, false)] [] rfl (by kernel_rfl) rfl rfl (by kernel_rfl) (by kernel_rfl) (by kernel_rfl) ?_ ?_
  · refine Exec.callS _ rfl rfl (sClone_spec l V (by omega)) ?_
    refine Exec.run tyOk 200 rfl ?_
    refine Exec.b2s tyOk rfl rfl rfl rfl rfl rfl rfl rfl rfl (hcell _ rfl) ?_
    refine Exec.run tyOk 200 rfl ?_
    refine Exec.fcat rfl rfl rfl hlen ?_
    refine Exec.run tyOk 200 rfl ?_
    refine Exec.ret tyOk rfl rfl ?_
    rw [hres]
    rfl
  · refine Exec.run tyOk 200 rfl ?_
    refine Exec.pick2 (i := 1) (j := 10) [(10, false), (11, true), (12, true), (13, false), (14, false)] [(11, true), (1, false), (12, true), (13, false), (14, false)] rfl (by kernel_rfl) rfl rfl (by kernel_rfl) (by kernel_rfl) (by kernel_rfl) ?_ ?_
    · refine Exec.callS _ rfl rfl (sClone_spec l V (by omega)) ?_
      refine Exec.run tyOk 200 rfl ?_
      refine Exec.b2s tyOk rfl rfl rfl rfl rfl rfl rfl rfl rfl (hcell _ rfl) ?_
      refine Exec.run tyOk 200 rfl ?_
      refine Exec.fcat rfl rfl rfl hlen ?_
      refine Exec.run tyOk 200 rfl ?_
      refine Exec.ret tyOk rfl rfl ?_
      rw [hres]
      rfl
    · refine Exec.b2s tyOk rfl rfl rfl rfl rfl rfl rfl rfl rfl (hcell _ rfl) ?_
      refine Exec.run tyOk 200 rfl ?_
      refine Exec.fcat rfl rfl rfl hlen ?_
      refine Exec.run tyOk 200 rfl ?_
      refine Exec.callS _ rfl rfl (sClone_spec l V (by omega)) ?_
      refine Exec.run tyOk 200 rfl ?_
      refine Exec.ret tyOk rfl rfl ?_
      rw [hres]
      rfl

end Go.Proofs.Ytpmghndhapmlnaa
