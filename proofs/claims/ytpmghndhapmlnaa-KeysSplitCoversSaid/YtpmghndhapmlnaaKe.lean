/-
  lives; keys.Same, slices.Equal over strings, and the reference of Same; the law KeysSame.
-/
import Derived.Test.YtpmghndhapmlnaaKd
namespace Go.Proofs.Ytpmghndhapmlnaa

theorem Spec.cast {P : Program} {f : Nat} {args : List Value} {V : View} {x y : Value} (h : Spec P f args V fun _ v => v = x) (e : x = y) : Spec P f args V fun _ v => v = y := by rw [← e]; exact h

theorem lives_spec (V : View) : Spec Try.prog 11 [] V fun _ v => v = .bool true := by
  refine Spec.enter0 (T := tyT) Try.func11 rfl (by kernel_rfl) rfl rfl ?_
  refine Exec.run tyOk 200 rfl ?_
  refine Exec.callS (.tuple ⟨[RV [97, 98] [97, 99], E 0]⟩) rfl rfl ((prefix_spec [97, 98] V).cast (by kernel_rfl)) ?_
  refine Exec.run tyOk 200 rfl ?_
  refine Exec.callS (.tuple ⟨[RV [97, 98] [97, 98, 99], RV [97, 98, 99] [97, 99], E 0]⟩) rfl rfl ((split_spec [97, 98] [97, 99] [97, 98, 99] V).cast (by kernel_rfl)) ?_
  refine Exec.run tyOk 200 rfl ?_
  refine Exec.callS (.tuple ⟨[RV [] [], RV [] [], E 1]⟩) rfl rfl ((split_spec [97, 98] [97, 99] [97, 98] V).cast (by kernel_rfl)) ?_
  refine Exec.run tyOk 200 rfl ?_
  refine Exec.callS (.bool true) rfl rfl (fun _ => (valid_spec [97, 47, 98, 46, 49, 95, 45] V).cast (by kernel_rfl)) ?_
  refine Exec.run tyOk 200 rfl ?_
  refine Exec.callS (.bool false) rfl rfl (fun _ => (valid_spec [65] V).cast (by kernel_rfl)) ?_
  refine Exec.run tyOk 200 rfl ?_
  refine Exec.callS (.bool false) rfl rfl (fun _ => (valid_spec [] V).cast (by kernel_rfl)) ?_
  refine Exec.run tyOk 200 rfl ?_
  exact Exec.ret tyOk rfl rfl (by show _ = _; kernel_rfl)

theorem take_same {α : Type} {s t : List α} {i : Nat} (h1 : i < s.length) (h2 : i < t.length) (h : s.take i = t.take i) (he : s[i] = t[i]) : s.take (i + 1) = t.take (i + 1) := by
  rw [List.take_succ_eq_append_getElem h1, List.take_succ_eq_append_getElem h2, h, he]

abbrev Sl (a : Option Addr) (n c : Nat) : Value := .slice a n c

/-- The view holds these strings from the slice's first element on. -/
def StrsIn (V : View) (a : Option Addr) (ss : List (List UInt8)) : Prop := ss ≠ [] → RdAt V a 0 (ss.map S)

theorem StrsIn.at {V : View} {a : Option Addr} {ss : List (List UInt8)} (h : StrsIn V a ss) {i : Nat} (hi : i < ss.length) : RdAt V a i [S ss[i]] := by
  have hne : ss ≠ [] := by rintro rfl; simp at hi
  have := (h hne).field i (c := S ss[i]) (by simp [hi])
  simpa using this

theorem StrsIn.some {V : View} {a : Option Addr} {ss : List (List UInt8)} (h : StrsIn V a ss) {i : Nat} (hi : i < ss.length) : ∃ b o, a = .some ⟨b, o, none⟩ := by
  obtain ⟨b, o, h1, _⟩ := h.at hi
  exact ⟨b, o, h1⟩

theorem equal_spec (a b : Option Addr) (c d : Nat) (ss tt : List (List UInt8)) (V : View) (ha : StrsIn V a ss) (hb : StrsIn V b tt) (hs : ss.length ≤ 1000) :
    Spec Try.prog 33 [Sl a ss.length c, Sl b tt.length d] V fun _ v => v = .bool (ss == tt) := by
  refine Spec.enter2 (T := tyT) Try.func33 rfl (by kernel_rfl) rfl rfl ?_
  refine Exec.run tyOk 200 rfl ?_
  refine Exec.cond rfl (fun h => ?_) (fun h => ?_)
  · refine Exec.run tyOk 200 rfl ?_
    refine Exec.ret tyOk rfl rfl ?_
    have hne : ss ≠ tt := by
      rintro rfl
      simp at h
    simp [retV, hne]
  have hlen : ss.length = tt.length := by simp at h; omega
  refine Exec.run tyOk 200 rfl ?_
  refine Exec.loopR (fun i : Nat => [(13, .v (I i)), (12, .v (I ss.length)), (0, .v (Sl a ss.length c)), (1, .v (Sl b tt.length d))])
      (fun i => i ≤ ss.length ∧ ss.take i = tt.take i) (fun i => ss.length - i) 0 ⟨rfl, rfl, rfl, rfl, trivial⟩ ⟨by omega, by simp⟩ ?_
  rintro i ⟨hi, hall⟩
  refine Exec.run tyOk 200 rfl ?_
  refine Exec.cond rfl (fun h => ?_) (fun h => ?_)
  · have h1 : i < ss.length := by simpa using h
    have h2 : i < tt.length := by omega
    refine Exec.run tyOk 200 rfl ?_
    refine Exec.draws tyOk [(0, true), (1, true), (2, true), (3, true), (4, true), (5, true), (6, true), (7, true), (8, true)] rfl (by kernel_rfl) ?_
    refine Exec.run tyOk 200 rfl ?_
    refine Exec.fia tyOk rfl rfl rfl ⟨by omega, by omega, ha.some h1⟩ ?_
    refine Exec.run tyOk 200 rfl ?_
    refine Exec.fld tyOk (cs := [S ss[i]]) (x := S ss[i]) rfl rfl rfl (by simpa [Imp] using ha.at h1) rfl rfl ?_
    refine Exec.run tyOk 200 rfl ?_
    refine Exec.fia tyOk rfl rfl rfl ⟨by omega, by omega, hb.some h2⟩ ?_
    refine Exec.run tyOk 200 rfl ?_
    refine Exec.fld tyOk (cs := [S tt[i]]) (x := S tt[i]) rfl rfl rfl (by simpa [Imp] using hb.at h2) rfl rfl ?_
    refine Exec.run tyOk 200 rfl ?_
    refine Exec.cond rfl (fun h => ?_) (fun h => ?_)
    · refine Exec.run tyOk 200 rfl ?_
      refine Exec.ret tyOk rfl rfl ?_
      have hne : ss ≠ tt := by
        rintro rfl
        simp at h
      simp [retV, hne]
    · have he : ss[i] = tt[i] := by simpa using h
      refine Exec.run tyOk 200 rfl ?_
      exact Exec.roundR (i + 1) ⟨look_int rfl (w64 (by omega) (by omega)), rfl, rfl, rfl, trivial⟩ (by omega) ⟨by omega, take_same h1 h2 hall he⟩
  · refine Exec.run tyOk 200 rfl ?_
    refine Exec.ret tyOk rfl rfl ?_
    have : i = ss.length := by simp at h; omega
    subst this
    have he : ss = tt := by
      rw [List.take_length, hlen, List.take_length] at hall
      exact hall
    simp [retV, he]

theorem same_spec (a b : Option Addr) (c d : Nat) (ss tt : List (List UInt8)) (V : View) (ha : StrsIn V a ss) (hb : StrsIn V b tt) (hs : ss.length ≤ 1000) :
    Spec Try.prog 24 [Sl a ss.length c, Sl b tt.length d] V fun _ v => v = .bool (ss == tt) := by
  refine Spec.enter2 (T := tyT) Try.func24 rfl (by kernel_rfl) rfl rfl ?_
  refine Exec.run tyOk 200 rfl ?_
  refine Exec.callS _ rfl rfl (equal_spec a b c d ss tt V ha hb hs) ?_
  refine Exec.run tyOk 200 rfl ?_
  exact Exec.ret tyOk rfl rfl rfl

theorem rSame_spec (a b : Option Addr) (c d : Nat) (ss tt : List (List UInt8)) (V : View) (ha : StrsIn V a ss) (hb : StrsIn V b tt) (hs : ss.length ≤ 1000) :
    Spec Try.prog 25 [Sl a ss.length c, Sl b tt.length d] V fun _ v => v = .bool (ss == tt) := by
  refine Spec.enter2 (T := tyT) Try.func25 rfl (by kernel_rfl) rfl rfl ?_
  refine Exec.run tyOk 200 rfl ?_
  refine Exec.cond rfl (fun h => ?_) (fun h => ?_)
  · refine Exec.run tyOk 200 rfl ?_
    refine Exec.ret tyOk rfl rfl ?_
    have hne : ss ≠ tt := by
      rintro rfl
      simp at h
    simp [retV, hne]
  have hlen : ss.length = tt.length := by simp at h; omega
  refine Exec.run tyOk 200 rfl ?_
  refine Exec.loopR (fun i : Nat => [(5, .v (I i)), (0, .v (Sl a ss.length c)), (1, .v (Sl b tt.length d))])
      (fun i => i ≤ ss.length ∧ ss.take i = tt.take i) (fun i => ss.length - i) 0 ⟨rfl, rfl, rfl, trivial⟩ ⟨by omega, by simp⟩ ?_
  rintro i ⟨hi, hall⟩
  refine Exec.run tyOk 200 rfl ?_
  refine Exec.cond rfl (fun h => ?_) (fun h => ?_)
  · have h1 : i < ss.length := by simpa using h
    have h2 : i < tt.length := by omega
    refine Exec.run tyOk 200 rfl ?_
    refine Exec.draws tyOk [(0, true), (1, true), (2, true), (3, true), (4, true), (5, true), (6, true), (7, true), (8, true)] rfl (by kernel_rfl) ?_
    refine Exec.run tyOk 200 rfl ?_
    refine Exec.fia tyOk rfl rfl rfl ⟨by omega, by omega, ha.some h1⟩ ?_
    refine Exec.run tyOk 200 rfl ?_
    refine Exec.fld tyOk (cs := [S ss[i]]) (x := S ss[i]) rfl rfl rfl (by simpa [Imp] using ha.at h1) rfl rfl ?_
    refine Exec.run tyOk 200 rfl ?_
    refine Exec.fia tyOk rfl rfl rfl ⟨by omega, by omega, hb.some h2⟩ ?_
    refine Exec.run tyOk 200 rfl ?_
    refine Exec.fld tyOk (cs := [S tt[i]]) (x := S tt[i]) rfl rfl rfl (by simpa [Imp] using hb.at h2) rfl rfl ?_
    refine Exec.run tyOk 200 rfl ?_
    refine Exec.cond rfl (fun h => ?_) (fun h => ?_)
    · refine Exec.run tyOk 200 rfl ?_
      refine Exec.ret tyOk rfl rfl ?_
      have hne : ss ≠ tt := by
        rintro rfl
        simp at h
      simp [retV, hne]
    · have he : ss[i] = tt[i] := by simpa using h
      refine Exec.run tyOk 200 rfl ?_
      exact Exec.roundR (i + 1) ⟨look_int rfl (w64 (by omega) (by omega)), rfl, rfl, trivial⟩ (by omega) ⟨by omega, take_same h1 h2 hall he⟩
  · refine Exec.run tyOk 200 rfl ?_
    refine Exec.ret tyOk rfl rfl ?_
    have : i = ss.length := by simp at h; omega
    subst this
    have he : ss = tt := by
      rw [List.take_length, hlen, List.take_length] at hall
      exact hall
    simp [retV, he]

theorem keysSame_spec (a b : Option Addr) (c d : Nat) (ss tt : List (List UInt8)) (V : View) (ha : StrsIn V a ss) (hb : StrsIn V b tt) :
    Spec Try.prog 7 [Sl a ss.length c, Sl b tt.length d] V fun _ v => v = .bool true := by
  refine Spec.enter2 (T := tyT) Try.func7 rfl (by kernel_rfl) rfl rfl ?_
  refine Exec.run tyOk 200 rfl ?_
  refine Exec.cond rfl (fun h => ?_) (fun h => ?_)
  · refine Exec.run tyOk 200 rfl ?_
    refine Exec.callS _ rfl rfl (lives_spec V) ?_
    refine Exec.run tyOk 200 rfl ?_
    exact Exec.ret tyOk rfl rfl rfl
  · have hs : ss.length ≤ 1000 := by simp at h; omega
    refine Exec.run tyOk 200 rfl ?_
    refine Exec.callS _ rfl rfl (same_spec a b c d ss tt V ha hb hs) ?_
    refine Exec.run tyOk 200 rfl ?_
    refine Exec.callS _ rfl rfl (rSame_spec a b c d ss tt V ha hb hs) ?_
    refine Exec.run tyOk 200 rfl ?_
    refine Exec.callS _ rfl rfl (fun _ => same_spec a a c c ss ss V ha ha hs) ?_
    refine Exec.run tyOk 200 rfl ?_
    refine Exec.callS _ rfl rfl (fun _ => lives_spec V) ?_
    refine Exec.run tyOk 200 rfl ?_
    refine Exec.ret tyOk rfl rfl ?_
    simp [retV]

end Go.Proofs.Ytpmghndhapmlnaa
