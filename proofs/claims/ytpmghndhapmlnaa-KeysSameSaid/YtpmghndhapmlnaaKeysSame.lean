/-
  The law KeysSame of package keys: whatever two slices of strings it is called with, it returns true, and they read as they did.
  Conditions: none beyond the statement's own.
-/
import Derived.Test.YtpmghndhapmlnaaPa
namespace Go.Proofs.Ytpmghndhapmlnaa.keysSame
open Go.ChangeShapes Go.WideShapes Go.ChangeAt Go.RowKit

theorem strsIn_of {W : World} {a : Addr} {ss : List ByteArray} {n : Nat} (h : ∀ i, i < ss.length → W.cell? (a.add i) = some (.string (ss.getD i ByteArray.empty))) :
    StrsIn (fun x => W.cell? x) (some a) ((ss.take n).map fun s => s.data.toList) := by
  intro hne
  have h1 : 0 < ss.length := by
    rcases Nat.eq_zero_or_pos ss.length with h0 | h0
    · have : ss = [] := List.length_eq_zero_iff.1 h0
      subst this
      simp at hne
    · exact h0
  have hsp : a.spot = none := by
    have := h 0 h1
    unfold World.cell? at this
    split at this
    · split at this
      · simp at this
      · rename_i hs
        cases hq : a.spot with
        | none => rfl
        | some q =>
          exfalso
          apply hs
          simp [Addr.add, hq]
    · simp at this
  refine ⟨a.block, a.off, ?_, fun j c hj => ?_⟩
  · cases a
    simp only at hsp
    subst hsp
    rfl
  · simp only [List.map_map, List.getElem?_map, Option.map_eq_some_iff] at hj
    obtain ⟨s, hs, rfl⟩ := hj
    rw [List.getElem?_take] at hs
    split at hs
    · have hlt := (List.getElem?_eq_some_iff.1 hs).1
      have hc := h j hlt
      have he : a.add j = ⟨a.block, a.off + 0 + j, none⟩ := by
        cases a
        simp only at hsp
        subst hsp
        simp [Addr.add_lit]
      rw [he] at hc
      simp only [hc, List.getD_eq_getElem?_getD, hs, Option.getD_some]
      rfl
    · simp at hs

theorem open_arg {H : Type} {enc : TypeId × Value → H} {W : World} {base : Nat} {v : Value} {d : DataW H} {p : List MemPlace} (hval : Value.okWide Try.prog W .any base 36 v)
    (h : DataW.Trod enc Try.prog W 0 (fun _ => true) true 36 v d p) : ∃ a c ss, v = Sl a (List.length ss) c ∧ StrsIn (fun x => W.cell? x) a ss := by
  obtain ⟨a, n, c, rfl⟩ := okWide_slice Try.underlying36 hval
  obtain ⟨fuel, hf⟩ := h
  rcases open_strings Try.underlying36 Try.underlying9 (by kernel_rfl) hf with ⟨hcs, _⟩ | ⟨a', len, cap, ss, hcs, _, hl, hm, hz, _, hcell, _⟩
  · simp [Value.cells] at hcs
    obtain ⟨rfl, rfl, rfl⟩ := hcs
    exact ⟨none, 0, [], rfl, fun h => absurd rfl h⟩
  · simp [Value.cells] at hcs
    obtain ⟨rfl, rfl, rfl⟩ := hcs
    simp only [if_true] at hz
    refine ⟨some a', c, (ss.take n).map fun s => s.data.toList, ?_, strsIn_of hcell⟩
    simp only [List.length_map, List.length_take]
    rw [Nat.min_eq_left (by omega)]

theorem contract (H : Type) (enc : TypeId × Value → H) (W : World) (base : Nat) (args : Array Value) (ds gs : List (DataW H)) (before : List MemPlace)
    (hval : ∀ (j : Nat) t v, Try.f7.params[j]? = some t → args[j]? = some v → Value.okWide Try.prog W .any base t v)
    (hW : DataW.Whole enc Try.prog Try.f7.params.toList Rows.keysSameSpec.vars false W args.toList ds gs before) :
    Calls Try.prog 7 args W fun e W' => ∃ v, e = .returned v ∧ Rows.keysSameSpec.post enc Try.prog Try.f7 false true false false W args v W' := by
  have hW' := hW
  obtain ⟨p, q, hA0, hV, rfl, hfz, hnd⟩ := hW
  have hA : DataW.TrodAll enc Try.prog W 0 (fun _ => true) true Try.f7.params.toList args.toList ds p := hA0
  rw [Try.params7] at hA hval
  obtain ⟨v0, v1, d0, d1, p0, p1, rfl, rfl, rfl, h0, h1⟩ := trodAll_two hA
  obtain ⟨rfl, rfl⟩ := trodVars_none hV
  obtain ⟨a, c, ss, rfl, ha⟩ := open_arg (hval 0 36 v0 rfl rfl) h0
  obtain ⟨b, d, tt, rfl, hb⟩ := open_arg (hval 1 36 v1 rfl rfl) h1
  have hc : Calls Try.prog 7 ⟨[Sl a ss.length c, Sl b tt.length d]⟩ W fun e W' => e = .returned (.bool true) ∧ Below W.heap.size W W' := by
    have hV : Holds (fun a => W.cell? a) W := fun _ _ h => h
    refine ((keysSame_spec a b c d ss tt _ ha hb).2 W hV).mono fun e W' ⟨v, V', h1, h2, _, _, _, h6⟩ => ?_
    rw [h1, h6]
    exact ⟨rfl, h2⟩
  refine hc.mono fun e W' ⟨he, hg⟩ => ?_
  exact ⟨_, he, law_post rfl (by kernel_rfl) (by
    intro t ht
    have : t = 36 := by
      rw [show Try.f7.params = #[36, 36] from Try.params7] at ht
      simpa using ht
    subst this
    exact ⟨by kernel_rfl, of_decide_eq_true (by kernel_rfl)⟩) hW' rfl hg⟩

set_option maxRecDepth 100000 in
theorem lifted (os : Os) (started : os.Started) (H : Type) (enc : TypeId × Value → H) :
    ReturnsInHanded {} Try.checked os 7 .any (Rows.keysSameSpec.pre6 enc Try.prog Try.f7 Rows.keysSameRow.domain false) (Rows.keysSameSpec.post enc Try.prog Try.f7 false true false false) := by
  refine returnsInHanded_of_change (C := Try.checked) own started (by kernel_rfl) Try.func7
    (ChangeSpec.witness6 (enc := enc) (C := Try.checked) false ⟨#[], #[.slice none 0 0, .slice none 0 0], []⟩ 8 (by kernel_rfl) (by kernel_rfl) (by kernel_rfl) (by kernel_rfl)) ?_
  intro W base args ds gs before hval hW _ _
  exact contract H enc W base args ds gs before hval hW

theorem proved : Rows.KeysSameSaid :=
  OpenClaim.holds_of_wide 7 Try.f7 rfl rfl rfl rfl rfl rfl rfl ⟨rfl, rfl, rfl, rfl, rfl⟩ rfl rfl rfl rfl rfl (by kernel_rfl) Try.func7 (by kernel_rfl)
    (of_decide_eq_true (by kernel_rfl)) (by unfold Func.isWrapper; first | (rw [if_pos (by decide +kernel)]; kernel_rfl) | (rw [if_neg (by decide +kernel)]; exact ⟨rfl, rfl⟩))
    (fun os started H enc _ => lifted os started H enc)

end Go.Proofs.Ytpmghndhapmlnaa.keysSame

theorem Go.Proofs.Ytpmghndhapmlnaa.keysSameProved : Go.Proofs.Ytpmghndhapmlnaa.Rows.KeysSameSaid := Go.Proofs.Ytpmghndhapmlnaa.keysSame.proved
