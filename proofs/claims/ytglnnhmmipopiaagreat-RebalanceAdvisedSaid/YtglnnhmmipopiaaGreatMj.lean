/-
 A FRAMEWORK FOR PROOFS ABOUT CALLS (part j): arguments opened as data that memory can hold (reachBytes).
-/
import Derived.Test.YtglnnhmmipopiaaGreatMc
import Derived.SizedLaws
set_option linter.all false
namespace Go.Proofs.YtglnnhmmipopiaaGreat
open Go.ChangeShapes Go.WideShapes Go.ChangeAt Go.RowKit
def OpensR {α : Type} [Inhabited α] (P : Program) (t : Nat) (c : Cd α) (ok : α → Prop) : Prop :=
 ∀ (H : Type) (enc : TypeId × Value → H) (W : World) (fuel : Nat) (cs : List Value) (d : DataW H × List MemPlace), DataW.trod enc P W 0 (fun _ => true) true fuel t cs = some d → (∀ n ∈ d.1.weights P t, n ≤ reachBytes) → ∃ x, c.rep (fun a => W.cell? a) x cs ∧ ok x
def okLR {α : Type} (ok : α → Prop) (l : List α) : Prop := l.length ≤ 140737488355328 ∧ ∀ x ∈ l, ok x
theorem Opens.toR {α : Type} [Inhabited α] {P : Program} {t : Nat} {c : Cd α} {ok : α → Prop} (h : Opens P t c ok) : OpensR P t c ok := fun H enc W fuel cs d hd _ => h H enc W fuel cs d hd
theorem weights_all {H : Type} {P : Program} {e : TypeId} {d : DataW H} : ∀ {l : List (DataW H)}, d ∈ l → ∀ n ∈ d.weights P e, n ∈ DataW.weightsAll P e l
 | x :: l, hd, n, hn => by
  simp only [DataW.weightsAll, List.mem_append]
  rcases List.mem_cons.1 hd with rfl | hd
  ·exact .inl hn
  ·exact .inr (weights_all hd n hn)
theorem opensR_slice {α : Type} [Inhabited α] {P : Program} {t e : Nat} {c : Cd α} {ok : α → Prop} (ht : P.underlying t = some (.slice e)) (hsz : P.cellsOf e = c.sz) (hby : 0 < P.bytesOf e) (he : OpensR P e c ok) : OpensR P t (cSl c) (okLR ok) := by
 intro H enc W fuel cs d h hw
 rcases Go.Deep.open_slice ht h with ⟨rfl, _⟩ | ⟨a, len, cap, m, n, D, Pl, rfl, _, hlc, hcm, hm, rfl, hel⟩
 ·exact ⟨[], ⟨none, 0, rfl, SlAt.nil⟩, by simp [okLR]⟩
 ·simp only [if_true] at hm
  subst hm
  have hlen : len ≤ 140737488355328 := by
   have := hw _ (by simp only [DataW.weights, ht]; exact List.mem_cons_self)
   rw [List.length_map, List.length_range] at this
   have h2 : len ≤ (len + ((List.range (m - len)).map fun j => D (len + j)).length) * P.bytesOf e := Nat.le_trans (Nat.le_add_right _ _) (Nat.le_mul_of_pos_right _ hby)
   exact Nat.le_trans (Nat.le_trans h2 this) (by decide)
  have hwi : ∀ i, i < len → ∀ n ∈ (D i).weights P e, n ≤ reachBytes := fun i hi n hn => by
   refine hw n ?_
   simp only [DataW.weights, ht, List.mem_cons, List.mem_append]
   exact .inr (.inl (weights_all (List.mem_map.2 ⟨i, List.mem_range.2 hi, rfl⟩) n hn))
  have hsp0 : 0 < len → a.spot = none := by
   intro hl0
   obtain ⟨cs', k1, _⟩ := hel 0 (by omega)
   obtain ⟨_, k5, k6⟩ := World.cells?_some k1
   rw [hsz] at k5 k6
   have h0 := k6 0 c.pos
   have hlt : 0 < cs'.length := by rw [k5]; exact c.pos
   rw [List.getElem?_eq_getElem hlt] at h0
   unfold World.cell? at h0
   split at h0
   ·split at h0
    ·simp at h0
    ·rename_i hs
     cases hq : a.spot with
     | none => rfl
     | some q =>
      exfalso
      apply hs
      simp [Addr.add, hq]
   ·simp at h0
  have hall : ∀ i, i < len → ∃ x, (∃ cs', c.rep (fun a => W.cell? a) x cs' ∧ RdAt (fun a => W.cell? a) (some a) (i * c.sz) cs') ∧ ok x := by
   intro i hi
   obtain ⟨cs', k1, k2⟩ := hel i (by omega)
   obtain ⟨x, k3, k4⟩ := he H enc W n cs' _ k2 (hwi i hi)
   obtain ⟨_, k5, k6⟩ := World.cells?_some k1
   rw [hsz] at k1 k5 k6
   have hsp : a.spot = none := hsp0 (by omega)
   refine ⟨x, ⟨cs', k3, a.block, a.off, ?_, fun j v hj => ?_⟩, k4⟩
   ·cases a
    simp only at hsp
    subst hsp
    rfl
   ·have hj' := (List.getElem?_eq_some_iff.1 hj).1
    have := k6 j (by omega)
    rw [hj] at this
    rw [← this]
    congr 1
    cases a
    simp only at hsp
    subst hsp
    simp [Addr.add_lit]
  obtain ⟨l, h1, h2⟩ := exists_list hall
  refine ⟨l, ⟨some a, m, by rw [h1], by omega, fun i x hx => (h2 i x hx).1⟩, ?_, ?_⟩
  ·omega
  ·intro x hx
   obtain ⟨i, hi, rfl⟩ := List.mem_iff_getElem.1 hx
   exact (h2 i _ (List.getElem?_eq_getElem hi)).2
theorem fieldR {α : Type} [Inhabited α] {P : Program} {W : World} {H : Type} {enc : TypeId × Value → H} {t n sz : Nat} {cs : List Value} {fs : Array Field} {xs : List (DataW H × List MemPlace)} {c : Cd α} {ok : α → Prop} {f : Field} (ht : P.underlying t = some (.struct fs))
  (hf : ∀ (i : Nat) (f : Field), fs[i]? = some f → DataW.trod enc P W 0 (fun _ => true) true n f.type ((cs.drop f.offset).take (P.cellsOf f.type)) = xs[i]?) (hxs : xs.length = fs.size)
  (hw : ∀ m ∈ (DataW.agg (xs.map (·.1))).weights P t, m ≤ reachBytes)
  (i : Nat) (hi : fs[i]? = some f) (hsz : P.cellsOf f.type = sz) (ho : OpensR P f.type c ok) : ∃ x, c.rep (fun a => W.cell? a) x ((cs.drop f.offset).take sz) ∧ ok x := by
 have h1 := hf i f hi
 have hlt : i < xs.length := by
  rw [hxs]
  exact (Array.getElem?_eq_some_iff.1 hi).1
 rw [hsz, List.getElem?_eq_getElem hlt] at h1
 refine ho H enc W n _ _ h1 (fun m hm => hw m ?_)
 simp only [DataW.weights, ht]
 refine DataW.weights_mem_each (j := i) (t := f.type) (d := xs[i].1) ?_ ?_ m hm
 ·rw [List.getElem?_map, Array.getElem?_toList, hi]; rfl
 ·rw [List.getElem?_map, List.getElem?_eq_getElem hlt]; rfl
theorem openVR_slice {α : Type} [Inhabited α] {H : Type} {enc : TypeId × Value → H} {P : Program} {W : World} {base t e : Nat} {c : Cd α} {ok : α → Prop} (ht : P.underlying t = some (.slice e)) (hsz : P.cellsOf e = c.sz) (hby : 0 < P.bytesOf e) (he : OpensR P e c ok)
  {v : Value} {d : DataW H} {p : List MemPlace} (hval : Value.okWide P W .any base t v) (h : DataW.Trod enc P W 0 (fun _ => true) true t v d p) (hw : ∀ n ∈ d.weights P t, n ≤ reachBytes) :
  ∃ a k l, v = .slice a (List.length l) k ∧ SlAt c (fun a => W.cell? a) a k l ∧ okLR ok l := by
 obtain ⟨a, n, k, rfl⟩ := okWide_slice ht hval
 obtain ⟨fuel, hf⟩ := h
 obtain ⟨l, ⟨a', k', h1, h2⟩, h3⟩ := opensR_slice ht hsz hby he H enc W fuel _ _ hf hw
 simp [Value.cells] at h1
 obtain ⟨rfl, rfl, rfl⟩ := h1
 exact ⟨a, k, l, rfl, h2, h3⟩
theorem openVR_struct {α : Type} [Inhabited α] {H : Type} {enc : TypeId × Value → H} {P : Program} {W : World} {base t : Nat} {fs : Array Field} {c : Cd α} {ok : α → Prop} (ht : P.underlying t = some (.struct fs)) (he : OpensR P t c ok)
  {v : Value} {d : DataW H} {p : List MemPlace} (hval : Value.okWide P W .any base t v) (h : DataW.Trod enc P W 0 (fun _ => true) true t v d p) (hw : ∀ n ∈ d.weights P t, n ≤ reachBytes) : ∃ cs x, v = .agg ⟨cs⟩ ∧ c.rep (fun a => W.cell? a) x cs ∧ ok x := by
 obtain ⟨cs, rfl, _⟩ := okWide_struct ht hval
 obtain ⟨fuel, hf⟩ := h
 obtain ⟨x, h1, h2⟩ := he H enc W fuel _ _ hf hw
 exact ⟨cs.toList, x, rfl, h1, h2⟩
end Go.Proofs.YtglnnhmmipopiaaGreat
