/-
  PLACEMENTS AS BYTES: what both sides write; what both sides read of a partition.
  Conditions: strings are no longer than memory is.
-/
import Derived.Test.YtdkakeiccefbgaaWe
set_option linter.all false
namespace Go.Proofs.Ytdkakeiccefbgaa
open Go.ChangeShapes

def partB (x : TPart) : Str := intB x.Id ++ textB x.From ++ intB x.Node ++ intB x.Dest ++ textB x.Done
def partsB (l : List TPart) : Str := (l.map partB).flatten
def plB (p : TPlacement) : Str := intB p.Version ++ uintB p.Parts.length ++ partsB p.Parts

structure Ok9 (m : Nat) (x : TPart) : Prop where
  id : okI .i64 x.Id
  node : okI .i64 x.Node
  dest : okI .i64 x.Dest
  fr : x.From.length ≤ m
  dn : x.Done.length ≤ m

theorem intB_len {x : Int} (h : okI .i64 x) : 1 ≤ (intB x).length ∧ (intB x).length ≤ 10 := uintB_len64 (zig_lt h)
theorem textB_len {a : Str} (h : a.length ≤ 1000) : 1 ≤ (textB a).length ∧ (textB a).length ≤ 10 + a.length := by
  have := uintB_len64 (u := a.length) (by omega)
  simp only [textB, List.length_append]
  omega

theorem fold_parts (l : List TPart) : ∀ s : Str, l.foldl (fun s x => s ++ partB x) s = s ++ partsB l := by
  induction l with
  | nil => intro s; simp [partsB]
  | cons x l ih =>
    intro s
    rw [List.foldl_cons, ih]
    simp [partsB]

theorem place_Encode {p : TPlacement} (hv : okI .i64 p.Version) (hn : p.Parts.length ≤ 1000) (hp : ∀ x ∈ p.Parts, Ok9 1000 x) : F_placement_Encode p = some (plB p) := by
  have hl1 := intB_len hv
  have hl2 := uintB_len64 (u := p.Parts.length) (by omega)
  unfold F_placement_Encode
  rw [wire_Int hv, bnd_mk, wrU64n (by omega), wire_Uint (by omega), bnd_mk, req_pos (by omega)]
  simp only [jn_mk]
  refine (loopFold (l := p.Parts) (by omega) (L := fun n s i => F_placement_Encode_L1 p (fun x6 => some x6) n s i) (J := fun s => some s) (f := fun s x => s ++ partB x) (fun i s => s.length ≤ 20 + i * 3000) ?_ ?_ ?_ (by omega) (by simp; omega)).trans ?_
  · intro n i s h hs
    obtain ⟨a1, a2, a3, a4, a5⟩ := hp _ (List.getElem_mem h)
    have l1 := intB_len a1
    have l2 := intB_len a2
    have l3 := intB_len a3
    have l4 := textB_len a4
    have l5 := textB_len a5
    have hi : i * 3000 ≤ 3000000 := by omega
    try dsimp only
    rw [F_placement_Encode_L1]
    rw [decide_eq_true (show (i : Int) < ((p.Parts.length : Nat) : Int) by omega), cond_true, req_pos (by omega), atI_nat h, wire_Int a1, bnd_mk, wire_Text (by omega), bnd_mk, req_pos (by omega), wire_Int a2, bnd_mk, req_pos (by simp only [List.length_append]; omega), wire_Int a3, bnd_mk,
      req_pos (by simp only [List.length_append]; omega), wire_Text (by omega), bnd_mk, req_pos (by simp only [List.length_append]; omega), req_pos (by simp only [List.length_append]; omega)]
    rfl
  · intro i s h hs
    obtain ⟨a1, a2, a3, a4, a5⟩ := hp _ (List.getElem_mem h)
    have l1 := intB_len a1
    have l2 := intB_len a2
    have l3 := intB_len a3
    have l4 := textB_len a4
    have l5 := textB_len a5
    simp only [partB, List.length_append]
    omega
  · intro n s hs
    try dsimp only
    rw [F_placement_Encode_L1, decide_eq_false (by omega), cond_false]
  · rw [fold_parts]; rfl

theorem ref_Encode {p : TPlacement} (hv : okI .i64 p.Version) (hn : p.Parts.length ≤ 1000) (hp : ∀ x ∈ p.Parts, Ok9 1000 x) : F_clockworkref29_Encode p = some (plB p) := by
  have hl1 := intB_len hv
  have hl2 := uintB_len64 (u := p.Parts.length) (by omega)
  unfold F_clockworkref29_Encode
  rw [ref_Int hv, bnd_mk, wrU64n (by omega), ref_Uint (by omega), bnd_mk, req_pos (by omega)]
  simp only [jn_mk]
  refine (loopFold (l := p.Parts) (by omega) (L := fun n s i => F_clockworkref29_Encode_L1 p (fun x6 => some x6) n s i) (J := fun s => some s) (f := fun s x => s ++ partB x) (fun i s => s.length ≤ 20 + i * 3000) ?_ ?_ ?_ (by omega) (by simp; omega)).trans ?_
  · intro n i s h hs
    obtain ⟨a1, a2, a3, a4, a5⟩ := hp _ (List.getElem_mem h)
    have l1 := intB_len a1
    have l2 := intB_len a2
    have l3 := intB_len a3
    have l4 := textB_len a4
    have l5 := textB_len a5
    have hi : i * 3000 ≤ 3000000 := by omega
    try dsimp only
    rw [F_clockworkref29_Encode_L1]
    rw [decide_eq_true (show (i : Int) < ((p.Parts.length : Nat) : Int) by omega), cond_true, req_pos (by omega), atI_nat h, ref_Int a1, bnd_mk, req_pos (by omega), ref_Text (by omega), bnd_mk, req_pos (by simp only [List.length_append]; omega), ref_Int a2, bnd_mk, req_pos (by simp only [List.length_append]; omega), ref_Int a3, bnd_mk,
      req_pos (by simp only [List.length_append]; omega), ref_Text (by omega), bnd_mk, req_pos (by simp only [List.length_append]; omega)]
    simp only [partB, List.append_assoc]
  · intro i s h hs
    obtain ⟨a1, a2, a3, a4, a5⟩ := hp _ (List.getElem_mem h)
    have l1 := intB_len a1
    have l2 := intB_len a2
    have l3 := intB_len a3
    have l4 := textB_len a4
    have l5 := textB_len a5
    simp only [partB, List.length_append]
    omega
  · intro n s hs
    try dsimp only
    rw [F_clockworkref29_Encode_L1, decide_eq_false (by omega), cond_false]
  · rw [fold_parts]; rfl

/-! ### Reading -/

def thenR {α β : Type} (d : β) (r : α × Int × Int) (k : α → Int → β × Int × Int) : β × Int × Int := if r.2.2 = 0 then k r.1 r.2.1 else (d, 0, r.2.2)

theorem thenR_f {α β : Type} {d : β} {r : α × Int × Int} {k : α → Int → β × Int × Int} {X : Option (β × Int × Int)} (h : r.2.2 = 0 → X = some (k r.1 r.2.1)) : cond (r.2.2 != (0 : Int)) (some (d, (0 : Int), r.2.2)) X = some (thenR d r k) := by
  rw [neB, thenR]
  by_cases hr : r.2.2 = 0
  · rw [decide_eq_true hr, Bool.not_true, cond_false, if_pos hr, h hr]
  · rw [decide_eq_false hr, Bool.not_false, cond_true, if_neg hr]

theorem thenR_ok {α β : Type} {d : β} {a : α} {q : Int} {k : α → Int → β × Int × Int} : thenR d (a, q, 0) k = k a q := rfl
theorem thenR_no {α β : Type} {d : β} {a : α} {q e : Int} {k : α → Int → β × Int × Int} (h : e ≠ 0) : thenR d (a, q, e) k = (d, 0, e) := if_neg h

def zP : TPart := ⟨0, [], 0, 0, []⟩
def takePart (s : Str) (p : Int) : TPart × Int × Int := thenR zP (takeInt s p) fun a p => thenR zP (takeText s p 24) fun b p => thenR zP (takeInt s p) fun c p => thenR zP (takeInt s p) fun d p => thenR zP (takeText s p 24) fun f p => (⟨a, b, c, d, f⟩, p, 0)

theorem ref_takePart {s : Str} {p : Int} (hs : s.length < 9000000000000000000) : F_clockworkref29_takePart s p = some (takePart s p) := by
  unfold F_clockworkref29_takePart takePart
  rw [ref_TakeInt hs, bnd_mk]
  refine thenR_f fun _ => ?_
  rw [show (24 : Int) = ((24 : Nat) : Int) from rfl, ref_TakeText hs (by omega), bnd_mk]
  refine thenR_f fun _ => ?_
  rw [ref_TakeInt hs, bnd_mk]
  refine thenR_f fun _ => ?_
  rw [ref_TakeInt hs, bnd_mk]
  refine thenR_f fun _ => ?_
  rw [ref_TakeText hs (by omega), bnd_mk]
  exact thenR_f fun _ => rfl

theorem rdNumber_0 {s : Str} {p : Int} (hs : s.length < 9000000000000000000) : rdNumber s p 0 = some (takeInt s p) := by
  unfold rdNumber
  rw [wire_TakeInt hs]
  rfl
theorem rdText_0 {s : Str} {p : Int} (hs : s.length < 9000000000000000000) : rdText s p 0 = some (takeText s p 24) := by
  unfold rdText
  rw [show (24 : Int) = ((24 : Nat) : Int) from rfl, wire_TakeText hs (by omega)]
  rfl
theorem rdNumber_e {s : Str} {p e : Int} (he : e ≠ 0) : rdNumber s p e = some (0, p, e) := by
  unfold rdNumber
  rw [neB, decide_eq_false he]
  rfl
theorem rdText_e {s : Str} {p e : Int} (he : e ≠ 0) : rdText s p e = some ([], p, e) := by
  unfold rdText
  rw [neB, decide_eq_false he]
  rfl

/-- What the program reads of a partition: the same, or it goes on with an error. -/
theorem chain9 {ρ : Type} {s : Str} {p : Int} (hs : s.length < 9000000000000000000) (K : TPart → Int → Int → Option ρ) :
    ((takePart s p).2.2 = 0 ∧ (bnd (rdNumber s p 0) fun y1 => bnd (rdText s y1.2.1 y1.2.2) fun y2 => bnd (rdNumber s y2.2.1 y2.2.2) fun y3 => bnd (rdNumber s y3.2.1 y3.2.2) fun y4 => bnd (rdText s y4.2.1 y4.2.2) fun y5 => K ⟨y1.1, y2.1, y3.1, y4.1, y5.1⟩ y5.2.1 y5.2.2) = K (takePart s p).1 (takePart s p).2.1 0) ∨
    ((takePart s p).2.2 ≠ 0 ∧ ∃ x q, (bnd (rdNumber s p 0) fun y1 => bnd (rdText s y1.2.1 y1.2.2) fun y2 => bnd (rdNumber s y2.2.1 y2.2.2) fun y3 => bnd (rdNumber s y3.2.1 y3.2.2) fun y4 => bnd (rdText s y4.2.1 y4.2.2) fun y5 => K ⟨y1.1, y2.1, y3.1, y4.1, y5.1⟩ y5.2.1 y5.2.2) = K x q (takePart s p).2.2) := by
  unfold takePart
  rw [rdNumber_0 hs, bnd_mk]
  rcases takeInt_cases s p with ⟨e, h, he⟩ | ⟨k, a, t, rfl, _, _, h⟩
  · rw [h, thenR_no he]
    simp only [rdText_e he, bnd_mk, rdNumber_e he]
    exact .inr ⟨he, _, _, rfl⟩
  rw [h, thenR_ok]
  simp only
  rw [rdText_0 hs, bnd_mk]
  rcases takeText_cases s ((k + (intB a).length : Nat) : Int) 24 with ⟨e, h2, he⟩ | ⟨k2, b, t2, e2, _, _, _, h2⟩
  · rw [h2, thenR_no he]
    simp only [rdText_e he, bnd_mk, rdNumber_e he]
    exact .inr ⟨he, _, _, rfl⟩
  rw [h2, thenR_ok]
  simp only
  rw [rdNumber_0 hs, bnd_mk]
  rcases takeInt_cases s ((k2 + (textB b).length : Nat) : Int) with ⟨e, h3, he⟩ | ⟨k3, c, t3, e3, _, _, h3⟩
  · rw [h3, thenR_no he]
    simp only [rdText_e he, bnd_mk, rdNumber_e he]
    exact .inr ⟨he, _, _, rfl⟩
  rw [h3, thenR_ok]
  simp only
  rw [rdNumber_0 hs, bnd_mk]
  rcases takeInt_cases s ((k3 + (intB c).length : Nat) : Int) with ⟨e, h4, he⟩ | ⟨k4, d, t4, e4, _, _, h4⟩
  · rw [h4, thenR_no he]
    simp only [rdText_e he, bnd_mk, rdNumber_e he]
    exact .inr ⟨he, _, _, rfl⟩
  rw [h4, thenR_ok]
  simp only
  rw [rdText_0 hs, bnd_mk]
  rcases takeText_cases s ((k4 + (intB d).length : Nat) : Int) 24 with ⟨e, h5, he⟩ | ⟨k5, f, t5, e5, _, _, _, h5⟩
  · rw [h5, thenR_no he]
    exact .inr ⟨he, _, _, rfl⟩
  rw [h5, thenR_ok]
  exact .inl ⟨rfl, rfl⟩

theorem drop_next {s a t : Str} {k : Nat} (h : s.drop k = a ++ t) : s.drop (k + a.length) = t := by
  rw [← List.drop_drop, h, List.drop_left]

theorem takePart_of {s t : Str} {k : Nat} {x : TPart} (hx : Ok9 24 x) (h : s.drop k = partB x ++ t) : takePart s (k : Int) = (x, ((k + (partB x).length : Nat) : Int), 0) := by
  obtain ⟨a1, a2, a3, a4, a5⟩ := hx
  simp only [partB, List.append_assoc] at h
  have h1 := drop_next h
  have h2 := drop_next h1
  have h3 := drop_next h2
  have h4 := drop_next h3
  unfold takePart
  rw [takeInt_of a1 h, thenR_ok, takeText_of (by omega) a4 h1, thenR_ok, takeInt_of a2 h2, thenR_ok, takeInt_of a3 h3, thenR_ok, takeText_of (by omega) a5 h4, thenR_ok]
  simp only [partB, List.length_append, Nat.add_assoc]

theorem takePart_cases (s : Str) (p : Int) : (∃ e, takePart s p = (zP, 0, e) ∧ e ≠ 0) ∨
    (∃ (k : Nat) (x : TPart) (t : Str), p = (k : Int) ∧ Ok9 24 x ∧ s.drop k = partB x ++ t ∧ takePart s p = (x, ((k + (partB x).length : Nat) : Int), 0)) := by
  rcases takeInt_cases s p with ⟨e, h, he⟩ | ⟨k, a, t, rfl, o1, d1, h⟩
  · exact .inl ⟨e, by unfold takePart; rw [h, thenR_no he], he⟩
  rcases takeText_cases s ((k + (intB a).length : Nat) : Int) 24 with ⟨e, h2, he⟩ | ⟨k2, b, t2, e2, o2, _, d2, h2⟩
  · exact .inl ⟨e, by unfold takePart; rw [h, thenR_ok, h2, thenR_no he], he⟩
  rcases takeInt_cases s ((k2 + (textB b).length : Nat) : Int) with ⟨e, h3, he⟩ | ⟨k3, c, t3, e3, o3, d3, h3⟩
  · exact .inl ⟨e, by unfold takePart; rw [h, thenR_ok, h2, thenR_ok, h3, thenR_no he], he⟩
  rcases takeInt_cases s ((k3 + (intB c).length : Nat) : Int) with ⟨e, h4, he⟩ | ⟨k4, d, t4, e4, o4, d4, h4⟩
  · exact .inl ⟨e, by unfold takePart; rw [h, thenR_ok, h2, thenR_ok, h3, thenR_ok, h4, thenR_no he], he⟩
  rcases takeText_cases s ((k4 + (intB d).length : Nat) : Int) 24 with ⟨e, h5, he⟩ | ⟨k5, f, t5, e5, o5, _, d5, h5⟩
  · exact .inl ⟨e, by unfold takePart; rw [h, thenR_ok, h2, thenR_ok, h3, thenR_ok, h4, thenR_ok, h5, thenR_no he], he⟩
  have e2 : k2 = k + (intB a).length := by omega
  have e3 : k3 = k2 + (textB b).length := by omega
  have e4 : k4 = k3 + (intB c).length := by omega
  have e5 : k5 = k4 + (intB d).length := by omega
  subst e2; subst e3; subst e4; subst e5
  have g1 := drop_next d1
  have g2 := drop_next d2
  have g3 := drop_next d3
  have g4 := drop_next d4
  rw [d2] at g1
  rw [d3] at g2
  rw [d4] at g3
  rw [d5] at g4
  have hd : s.drop k = partB ⟨a, b, c, d, f⟩ ++ t5 := by
    rw [d1, ← g1, ← g2, ← g3, ← g4]
    simp only [partB, List.append_assoc]
  exact .inr ⟨k, ⟨a, b, c, d, f⟩, t5, rfl, ⟨o1, o3, o4, o2, o5⟩, hd, takePart_of ⟨o1, o3, o4, o2, o5⟩ hd⟩

end Go.Proofs.Ytdkakeiccefbgaa
